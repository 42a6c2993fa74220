/-
  The contracts of Within, small, good and their kin: remainders, and whether a list of errors is all right.
-/
import Derived.Test.YtbejhfafipedmaaBase
import Derived.Test.YtbejhfafipedmaaArith0
set_option linter.unusedVariables false
set_option linter.unusedSimpArgs false
namespace Go.Proofs.Ytbejhfafipedmaa
open Go.RowKit

theorem rest_any (k n : Int) (w : World) (hn : 1 ≤ n) (hn2 : n ≤ 4611686018427387904) :
    Calls Try.prog 29 #[.int .i64 k, .int .i64 n] w fun e w' => e = .returned (.int .i64 (k % n)) ∧ w' = w := by
  have hb := Wm.tmod_bound k (show 0 < n by omega)
  by_cases h : k.tmod n < 0
  · have H := hide (Wm.emod_of_tmod_neg (show 0 < n by omega) h)
    go_enter Try.func29, Try.ntmps29
    go_wp2
    all_goals
      go_ret
      exact ⟨ret_int (by rw [← unhide H]), rfl⟩
  · have H := hide (Wm.emod_of_tmod_pos (show 0 < n by omega) h)
    go_enter Try.func29, Try.ntmps29
    go_wp2
    all_goals
      go_ret
      exact ⟨ret_int (by rw [← unhide H]), rfl⟩

theorem within_any (k n : Int) (w : World) (hn : 1 ≤ n) (hn2 : n ≤ 4611686018427387904) :
    Calls Try.prog 11 #[.int .i64 k, .int .i64 n] w fun e w' => e = .returned (.int .i64 (k % n)) ∧ w' = w := by
  go_enter Try.func11, Try.ntmps11
  go_wp2_with fail
  refine (rest_any k n w hn hn2).mono ?_
  rintro e w' ⟨rfl, rfl⟩
  go_wp2
  go_ret
  exact ⟨rfl, rfl⟩

theorem within_ex (k n : Int) (hn : 1 ≤ n) (hn2 : n ≤ 4611686018427387904) : ∃ r : Int, 0 ≤ r ∧ r < n ∧ Hid (r = k % n) ∧
    Hid (∀ w : World, Calls Try.prog 11 #[.int .i64 k, .int .i64 n] w fun e w' => e = .returned (.int .i64 r) ∧ w' = w) :=
  ⟨k % n, (Wm.emod_bound k (by omega)).1, (Wm.emod_bound k (by omega)).2, hide rfl, hide fun w => within_any k n w hn hn2⟩



theorem isbad_any (x : Int) (w : World) :
    Calls Try.prog 31 #[.int .i64 x] w fun e w' => e = .returned (.bool (x != 0)) ∧ w' = w := by
  go_enter Try.func31, Try.ntmps31
  go_wp2
  go_ret
  exact ⟨rfl, rfl⟩

theorem index_bad (xs : List Int) (b off cap : Nat) (w : World) (hx : xs.length ≤ 1000) (hc : ∀ k, k < xs.length → w.cell? ⟨b, off + k, none⟩ = some (.int .i64 (xs.getD k 0))) :
    Calls Try.prog 43 #[.slice (some ⟨b, off, none⟩) xs.length cap, .func (.func 31) #[] #[]] w fun e w' => (∃ n : Int, e = .returned (.int .i64 n) ∧ decide (0 ≤ n) = !(xs.all (· == 0))) ∧ w' = w := by
  have HC := hide hc
  clear hc
  go_enter Try.func43, Try.ntmps43
  go_wp2
  go_loop [8] (fun i => ∃ k : Nat, k ≤ xs.length ∧ i = .int .i64 k ∧ Hid (∀ j, j < k → xs.getD j 0 = 0)) (fun i => xs.length - (intOf i).toNat)
  case atStart => exact ⟨0, by omega, rfl, hide (fun j h => absurd h (by omega))⟩
  case round =>
    obtain ⟨k, hk, rfl, hz⟩ := hrel
    by_cases hlt : k < xs.length
    · have hcell := unhide HC k hlt
      by_cases hx0 : xs.getD k 0 = 0
      · rw [hx0] at hcell
        have HX := hide hx0
        clear hx0
        go_wp2_with (go_at_call 31; refine (isbad_any _ _).mono ?_; rintro e w' ⟨rfl, rfl⟩)
        go_round
        case rel => exact ⟨k + 1, by omega, by go_num, hide (fun j hj => by
            by_cases h : j < k
            · exact unhide hz j h
            · obtain rfl : j = k := by omega
              exact unhide HX)⟩
        case measure => simp [intOf]; omega
      · have hx1 : (xs.getD k 0 != 0) = true := by rw [bne_iff_ne]; exact hx0
        have hfin : Hid ((xs.all (· == 0)) = false) := hide (by
          rw [List.all_eq_false]
          refine ⟨xs.getD k 0, ?_, by simpa using hx0⟩
          rw [List.getD_eq_getElem?_getD, List.getElem?_eq_getElem hlt]
          exact List.getElem_mem hlt)
        generalize xs.getD k 0 = v at *
        clear hx0
        go_wp2_with (go_at_call 31; refine (isbad_any _ _).mono ?_; rintro e w' ⟨rfl, rfl⟩)
        go_ret
        exact ⟨⟨_, rfl, by rw [unhide hfin]; simp⟩, rfl⟩
    · have hfin : Hid ((xs.all (· == 0)) = true) := hide (by
        rw [List.all_eq_true]
        intro x hxm
        obtain ⟨j, hj, rfl⟩ := List.getElem_of_mem hxm
        have := unhide hz j (by omega)
        rw [List.getD_eq_getElem?_getD, List.getElem?_eq_getElem hj] at this
        simpa using this)
      go_wp2
      go_ret
      exact ⟨⟨_, rfl, by rw [unhide hfin]; simp⟩, rfl⟩

theorem good_any (xs : List Int) (b off cap : Nat) (w : World) (hx : xs.length ≤ 1000) (hc : ∀ k, k < xs.length → w.cell? ⟨b, off + k, none⟩ = some (.int .i64 (xs.getD k 0))) :
    Calls Try.prog 12 #[.slice (some ⟨b, off, none⟩) xs.length cap] w fun e w' => e = .returned (.bool (xs.all (· == 0))) ∧ w' = w := by
  have H := hide (index_bad xs b off cap w hx hc)
  clear hc
  generalize hv : xs.all (· == 0) = v at *
  clear hv
  go_enter Try.func12, Try.ntmps12
  go_wp2_with fail
  go_in
  go_wp2_with fail
  refine (unhide H).mono ?_
  rintro e w' ⟨⟨n, rfl, hn⟩, rfl⟩
  go_wp2
  go_ret
  exact ⟨rfl, rfl⟩

theorem good_two (x y : Int) (b cap : Nat) (w : World) (h0 : w.cell? ⟨b, 0, none⟩ = some (.int .i64 x)) (h1 : w.cell? ⟨b, 1, none⟩ = some (.int .i64 y)) :
    Calls Try.prog 12 #[.slice (some ⟨b, 0, none⟩) 2 cap] w fun e w' => e = .returned (.bool ([x, y].all (· == 0))) ∧ w' = w :=
  good_any [x, y] b 0 cap w (by simp) fun k hk => by
    match k, hk with
    | 0, _ => exact h0
    | 1, _ => exact h1
theorem good_three (x y z : Int) (b cap : Nat) (w : World) (h0 : w.cell? ⟨b, 0, none⟩ = some (.int .i64 x)) (h1 : w.cell? ⟨b, 1, none⟩ = some (.int .i64 y)) (h2 : w.cell? ⟨b, 2, none⟩ = some (.int .i64 z)) :
    Calls Try.prog 12 #[.slice (some ⟨b, 0, none⟩) 3 cap] w fun e w' => e = .returned (.bool ([x, y, z].all (· == 0))) ∧ w' = w :=
  good_any [x, y, z] b 0 cap w (by simp) fun k hk => by
    match k, hk with
    | 0, _ => exact h0
    | 1, _ => exact h1
    | 2, _ => exact h2
theorem good_two_ok (b cap : Nat) (w : World) (h0 : w.cell? ⟨b, 0, none⟩ = some (.int .i64 0)) (h1 : w.cell? ⟨b, 1, none⟩ = some (.int .i64 0)) :
    Calls Try.prog 12 #[.slice (some ⟨b, 0, none⟩) 2 cap] w fun e w' => e = .returned (.bool true) ∧ w' = w := good_two 0 0 b cap w h0 h1
theorem good_three_ok (b cap : Nat) (w : World) (h0 : w.cell? ⟨b, 0, none⟩ = some (.int .i64 0)) (h1 : w.cell? ⟨b, 1, none⟩ = some (.int .i64 0)) (h2 : w.cell? ⟨b, 2, none⟩ = some (.int .i64 0)) :
    Calls Try.prog 12 #[.slice (some ⟨b, 0, none⟩) 3 cap] w fun e w' => e = .returned (.bool true) ∧ w' = w := good_three 0 0 0 b cap w h0 h1 h2
/-- A list of errors that has just been laid. -/
theorem good_made (xs : List Int) (n : Nat) (cs : Array Value) (T : TypeId) (w : World) (hcs : cs.toList = xs.map (Value.int .i64)) (hn : n = xs.length) (hx : xs.length ≤ 1000) :
    Calls Try.prog 12 #[.slice (some ⟨w.heap.size, 0, none⟩) n n] (w.alloc (.cells cs T)) fun e w' => e = .returned (.bool (xs.all (· == 0))) ∧ w' = w.alloc (.cells cs T) := by
  subst hn
  refine good_any xs _ _ _ _ hx fun k hk => ?_
  have hsz : cs.size = xs.length := by rw [← Array.length_toList, hcs, List.length_map]
  have hk' : cs[k]? = some (.int .i64 (xs.getD k 0)) := by
    rw [← Array.getElem?_toList, hcs, List.getElem?_map, List.getD_eq_getElem?_getD, List.getElem?_eq_getElem hk]
    rfl
  simpa using hk'
/-- The same, where the block's number is spelled otherwise. -/
theorem good_made' (xs : List Int) (n b : Nat) (cs : Array Value) (T : TypeId) (w : World) (hcs : cs.toList = xs.map (Value.int .i64)) (hn : n = xs.length) (hx : xs.length ≤ 1000) (hb : b = w.heap.size) :
    Calls Try.prog 12 #[.slice (some ⟨b, 0, none⟩) n n] (w.alloc (.cells cs T)) fun e w' => e = .returned (.bool (xs.all (· == 0))) ∧ w' = w.alloc (.cells cs T) := by
  subst hb
  exact good_made xs n cs T w hcs hn hx
end Go.Proofs.Ytbejhfafipedmaa

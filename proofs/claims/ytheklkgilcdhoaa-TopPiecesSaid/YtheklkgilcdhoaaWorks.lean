/-
  The contract of wholetop.good, and wholetop.works returns true.
-/
import Derived.Test.YtheklkgilcdhoaaArith1
import Derived.Test.YtheklkgilcdhoaaEuclid1
import Derived.Test.YtheklkgilcdhoaaReed3
set_option linter.unusedVariables false
set_option linter.unusedSimpArgs false
namespace Go.Proofs.Ytheklkgilcdhoaa
open Go.RowKit Go.BigFrame

theorem tisbad_any (x : Int) (w : World) :
    Calls Try.prog 23 #[.int .i64 x] w fun e w' => e = .returned (.bool (x != 0)) ∧ w' = w := by
  go_enter Try.func23, Try.ntmps23
  go_wp2
  go_ret
  exact ⟨rfl, rfl⟩

theorem tindex_bad (xs : List Int) (b off cap : Nat) (w : World) (hx : xs.length ≤ 1000) (hc : ∀ k, k < xs.length → w.cell? ⟨b, off + k, none⟩ = some (.int .i64 (xs.getD k 0))) :
    Calls Try.prog 31 #[.slice (some ⟨b, off, none⟩) xs.length cap, .func (.func 23) #[] #[]] w fun e w' => (∃ n : Int, e = .returned (.int .i64 n) ∧ decide (0 ≤ n) = !(xs.all (· == 0))) ∧ w' = w := by
  have HC := hide hc
  clear hc
  go_enter Try.func31, Try.ntmps31
  go_wp2
  go_loop [8] (fun i => ∃ k : Nat, k ≤ xs.length ∧ i = .int .i64 k ∧ Hid (∀ j, j < k → xs.getD j 0 = 0)) (fun i => xs.length - (intOf i).toNat)
  case atStart => exact ⟨0, by omega, rfl, hide (fun j h => absurd h (by omega))⟩
  case round =>
    obtain ⟨k, hk, rfl, hz⟩ := hrel
    by_cases hlt : k < xs.length
    · have hcell := unhide HC k hlt
      by_cases hx0 : xs.getD k 0 = 0
      · rw [hx0] at hcell
        have HX := hide hx0
        clear hx0
        go_wp2_with (go_at_call 23; refine (tisbad_any _ _).mono ?_; rintro e w' ⟨rfl, rfl⟩)
        go_round
        case rel => exact ⟨k + 1, by omega, by go_num, hide (fun j hj => by
            by_cases h : j < k
            · exact unhide hz j h
            · obtain rfl : j = k := by omega
              exact unhide HX)⟩
        case measure => simp [intOf]; omega
      · have hx1 : (xs.getD k 0 != 0) = true := by rw [bne_iff_ne]; exact hx0
        have hfin : Hid ((xs.all (· == 0)) = false) := hide (by
          rw [List.all_eq_false]
          refine ⟨xs.getD k 0, ?_, by simpa using hx0⟩
          rw [List.getD_eq_getElem?_getD, List.getElem?_eq_getElem hlt]
          exact List.getElem_mem hlt)
        generalize xs.getD k 0 = v at *
        clear hx0
        go_wp2_with (go_at_call 23; refine (tisbad_any _ _).mono ?_; rintro e w' ⟨rfl, rfl⟩)
        go_ret
        exact ⟨⟨_, rfl, by rw [unhide hfin]; simp⟩, rfl⟩
    · have hfin : Hid ((xs.all (· == 0)) = true) := hide (by
        rw [List.all_eq_true]
        intro x hxm
        obtain ⟨j, hj, rfl⟩ := List.getElem_of_mem hxm
        have := unhide hz j (by omega)
        rw [List.getD_eq_getElem?_getD, List.getElem?_eq_getElem hj] at this
        simpa using this)
      go_wp2
      go_ret
      exact ⟨⟨_, rfl, by rw [unhide hfin]; simp⟩, rfl⟩

theorem tgood_any (xs : List Int) (b off cap : Nat) (w : World) (hx : xs.length ≤ 1000) (hc : ∀ k, k < xs.length → w.cell? ⟨b, off + k, none⟩ = some (.int .i64 (xs.getD k 0))) :
    Calls Try.prog 10 #[.slice (some ⟨b, off, none⟩) xs.length cap] w fun e w' => e = .returned (.bool (xs.all (· == 0))) ∧ w' = w := by
  have H := hide (tindex_bad xs b off cap w hx hc)
  clear hc
  generalize hv : xs.all (· == 0) = v at *
  clear hv
  go_enter Try.func10, Try.ntmps10
  go_wp2_with fail
  go_in
  go_wp2_with fail
  refine (unhide H).mono ?_
  rintro e w' ⟨⟨n, rfl, hn⟩, rfl⟩
  go_wp2
  go_ret
  exact ⟨rfl, rfl⟩

theorem tgood_two (x y : Int) (b cap : Nat) (w : World) (h0 : w.cell? ⟨b, 0, none⟩ = some (.int .i64 x)) (h1 : w.cell? ⟨b, 1, none⟩ = some (.int .i64 y)) :
    Calls Try.prog 10 #[.slice (some ⟨b, 0, none⟩) 2 cap] w fun e w' => e = .returned (.bool ([x, y].all (· == 0))) ∧ w' = w :=
  tgood_any [x, y] b 0 cap w (by simp) fun k hk => by
    match k, hk with
    | 0, _ => exact h0
    | 1, _ => exact h1
theorem tgood_three (x y z : Int) (b cap : Nat) (w : World) (h0 : w.cell? ⟨b, 0, none⟩ = some (.int .i64 x)) (h1 : w.cell? ⟨b, 1, none⟩ = some (.int .i64 y)) (h2 : w.cell? ⟨b, 2, none⟩ = some (.int .i64 z)) :
    Calls Try.prog 10 #[.slice (some ⟨b, 0, none⟩) 3 cap] w fun e w' => e = .returned (.bool ([x, y, z].all (· == 0))) ∧ w' = w :=
  tgood_any [x, y, z] b 0 cap w (by simp) fun k hk => by
    match k, hk with
    | 0, _ => exact h0
    | 1, _ => exact h1
    | 2, _ => exact h2
theorem tgood_two_ok (b cap : Nat) (w : World) (h0 : w.cell? ⟨b, 0, none⟩ = some (.int .i64 0)) (h1 : w.cell? ⟨b, 1, none⟩ = some (.int .i64 0)) :
    Calls Try.prog 10 #[.slice (some ⟨b, 0, none⟩) 2 cap] w fun e w' => e = .returned (.bool true) ∧ w' = w := tgood_two 0 0 b cap w h0 h1
theorem tgood_three_ok (b cap : Nat) (w : World) (h0 : w.cell? ⟨b, 0, none⟩ = some (.int .i64 0)) (h1 : w.cell? ⟨b, 1, none⟩ = some (.int .i64 0)) (h2 : w.cell? ⟨b, 2, none⟩ = some (.int .i64 0)) :
    Calls Try.prog 10 #[.slice (some ⟨b, 0, none⟩) 3 cap] w fun e w' => e = .returned (.bool true) ∧ w' = w := tgood_three 0 0 0 b cap w h0 h1 h2
/-- A list of errors that has just been laid. -/
theorem tgood_made (xs : List Int) (n : Nat) (cs : Array Value) (T : TypeId) (w : World) (hcs : cs.toList = xs.map (Value.int .i64)) (hn : n = xs.length) (hx : xs.length ≤ 1000) :
    Calls Try.prog 10 #[.slice (some ⟨w.heap.size, 0, none⟩) n n] (w.alloc (.cells cs T)) fun e w' => e = .returned (.bool (xs.all (· == 0))) ∧ w' = w.alloc (.cells cs T) := by
  subst hn
  refine tgood_any xs _ _ _ _ hx fun k hk => ?_
  have hsz : cs.size = xs.length := by rw [← Array.length_toList, hcs, List.length_map]
  have hk' : cs[k]? = some (.int .i64 (xs.getD k 0)) := by
    rw [← Array.getElem?_toList, hcs, List.getElem?_map, List.getD_eq_getElem?_getD, List.getElem?_eq_getElem hk]
    rfl
  simpa using hk'
/-- The same, where the block's number is spelled otherwise. -/
theorem tgood_made' (xs : List Int) (n b : Nat) (cs : Array Value) (T : TypeId) (w : World) (hcs : cs.toList = xs.map (Value.int .i64)) (hn : n = xs.length) (hx : xs.length ≤ 1000) (hb : b = w.heap.size) :
    Calls Try.prog 10 #[.slice (some ⟨b, 0, none⟩) n n] (w.alloc (.cells cs T)) fun e w' => e = .returned (.bool (xs.all (· == 0))) ∧ w' = w.alloc (.cells cs T) := by
  subst hb
  exact tgood_made xs n cs T w hcs hn hx

theorem tput57 : Wm.putL [5, 7] 3 = [5, 7, 1] := by decide +kernel

set_option maxRecDepth 100000 in
theorem works_any (w : World) : Calls Try.prog 6 #[] w fun e w' => e = .returned (.bool true) ∧ Ext w w' := by
  have CG := hide (fun w : World => Gcd_ok 12 18 w (by omega) (by omega))
  have hg : ((Int.gcd 12 18 : Nat) : Int) = 6 := by decide
  rw [hg] at CG
  have CP := hide (fun (w : World) (b : Nat) (R : Row w (some ⟨b, 0, none⟩) 2 1 (nats .u8 [5, 7])) => Put_ok (some ⟨b, 0, none⟩) 2 2 3 [5, 7] w R (Wm.B256.of (by decide)) (by omega) (by omega) (by omega))
  rw [tput57] at CP
  have hR := hide (fun w : World => row_new w #[.int .u8 5, .int .u8 7] 5 2 1 rfl)
  clear hg
  go_enter Try.func6, Try.ntmps6
  go_wp2_with fail
  refine (unhide CG _).mono ?_
  rintro e w1 ⟨rfl, k, rfl⟩
  go_wp2_with fail
  refine (unhide CP _ _ (unhide hR _)).mono ?_
  rintro e w2 ⟨⟨v, rfl, M⟩, E2⟩
  obtain ⟨B, cb, rfl, RB, -, -, -⟩ := M.open_
  obtain ⟨b, o, rfl, hb, c2⟩ := RB.nat (k := 2) (by omega)
  have E := (((Ext.refl w).drewN k).alloc (.cells #[.int .u8 5, .int .u8 7] 5)).trans E2
  simp at c2
  clear RB M E2 CP hR
  go_wp2
  go_ret
  exact ⟨rfl, (by repeat (first | exact E | refine Ext.alloc ?_ _ | refine Ext.drew ?_ | refine Ext.drewN ?_ _ | (refine Ext.trans ?_ (plus_ext _ _)) | (refine Ext.setCell ?_ (by have := Ext.size E; simp; omega) _)))⟩

end Go.Proofs.Ytheklkgilcdhoaa

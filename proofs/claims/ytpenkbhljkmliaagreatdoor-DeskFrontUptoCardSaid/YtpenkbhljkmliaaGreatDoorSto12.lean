/-
  slices.Contains over what a node keeps.
-/
import Derived.Test.YtpenkbhljkmliaaGreatDoorSto5
import Derived.Test.YtpenkbhljkmliaaGreatDoorPiece7
set_option linter.unusedVariables false
set_option linter.unusedSimpArgs false
namespace Go.Proofs.YtpenkbhljkmliaaGreatDoor
open Go.RowKit Go.BigFrame

theorem new_cell_ (W : World) (cs : Array Value) (T : TypeId) (j : Nat) : (W.alloc (.cells cs T)).cell? ⟨W.heap.size, j, none⟩ = cs[j]? := by simp
theorem kept_eq (t u : Nat) (s r : ByteArray) (w : World) : (binOp .eql 135 (.agg #[.int .i64 (t : Int), .int .i64 0, .string s]) (.agg #[.int .i64 (u : Int), .int .i64 0, .string r])).run Tryz.prog w = .ok (.bool (decide ((t, s) = (u, r)))) w := by
  have h1 := Tryz.underlying135
  have h2 := Tryz.underlying3
  have h3 := Tryz.underlying65
  have h4 := Tryz.underlying9
  rw [run_eql_struct]
  by_cases e : t = u
  · subst e
    by_cases e2 : s = r
    · subst e2
      rw [decide_eq_true rfl]
      simp [go_sem, h1, h2, h3, h4]
    · have hs : (s.toList == r.toList) = false := by rw [beq_eq_false_iff_ne]; exact fun h => e2 (str_inj8 h)
      rw [decide_eq_false (by simp [e2])]
      simp [go_sem, h1, h2, h3, h4, hs, e2]
  · have hI : ¬ (t : Int) = (u : Int) := by omega
    rw [decide_eq_false (by simp [e])]
    simp [go_sem, h1, h2, h3, h4, hI, e]

set_option maxRecDepth 100000 in
set_option maxHeartbeats 1000000 in
theorem idxk_ok (A : Option Addr) (n c : Nat) (l : List (Nat × ByteArray)) (t : Nat) (s : ByteArray) (w : World) (R : Row w A n 3 (kps l)) (hm : n ≤ 4611686018427387904) :
    Calls Tryz.prog 111 #[.slice A n c, .agg #[.int .i64 (t : Int), .int .i64 0, .string s]] w fun e w' => (∃ r : Int, e = .returned (.int .i64 r) ∧ decide (0 ≤ r) = l.any fun e => decide (e = (t, s))) ∧ Ext w w' := by
  have HL := hide (show l.length = n by have := R.1; rw [kps_length] at this; omega)
  have HR := hide R
  obtain ⟨W0, hW0⟩ : ∃ W0, W0 = w.alloc (.cells #[.int .i64 (t : Int), .int .i64 0, .string s] 135) := ⟨_, rfl⟩
  have HW0 := hide hW0
  have HE0 := hide (show Ext w W0 by rw [hW0]; exact (Ext.refl w).alloc _)
  have b0 : W0.cell? ⟨w.heap.size, 0, none⟩ = some (.int .i64 (t : Int)) := by rw [hW0, new_cell_]; rfl
  have b1 : W0.cell? ⟨w.heap.size, 1, none⟩ = some (.int .i64 0) := by rw [hW0, new_cell_]; rfl
  have b2 : W0.cell? ⟨w.heap.size, 2, none⟩ = some (.string s) := by rw [hW0, new_cell_]; rfl
  have HB0 := hide b0
  have HB1 := hide b1
  have HB2 := hide b2
  clear R hW0 b0 b1 b2
  go_enter Tryz.func111, Tryz.ntmps111
  go_wp2
  rw [← unhide HW0]
  go_loopw [8] (fun i wr => ∃ k : Nat, k ≤ n ∧ i = .int .i64 k ∧ Hid (∀ j, j < k → ¬ kd l j = (t, s)) ∧ Ext W0 wr) (fun i _ => n - (intOf i).toNat)
  case atStart => exact ⟨0, by omega, rfl, hide (fun j h => absurd h (by omega)), Ext.refl _⟩
  case round =>
    obtain ⟨k, hk, rfl, hz, hext⟩ := hrel
    by_cases hlt : k < n
    · obtain ⟨b, o, rfl, hb, c1, c2, c3⟩ := ((unhide HR).keep ((unhide HE0).trans hext)).kp hlt
      have d1 := hext.keep (unhide HB0)
      have d2 := hext.keep (unhide HB1)
      have d3 := hext.keep (unhide HB2)
      have heq := fun w => kept_eq t (kd l k).1 s (kd l k).2 w
      have HD := hide (show decide ((t, s) = ((kd l k).1, (kd l k).2)) = decide (kd l k = (t, s)) from by
        by_cases h : kd l k = (t, s)
        · rw [decide_eq_true h, decide_eq_true h.symm]
        · rw [decide_eq_false h, decide_eq_false (fun e => h e.symm)])
      have HM := hide (kd_mem (l := l) (j := k) (by rw [unhide HL]; exact hlt))
      have hkI : (k : Int) < (n : Int) := by omega
      by_cases hy : kd l k = (t, s)
      · have hq : decide ((t, s) = ((kd l k).1, (kd l k).2)) = true := by rw [unhide HD, decide_eq_true hy]
        rw [hq] at heq
        have hany := hide (show l.any (fun e => decide (e = (t, s))) = true from List.any_eq_true.2 ⟨_, unhide HM, decide_eq_true hy⟩)
        clear hq hy HD HM
        generalize (kd l k).1 = x at *
        generalize (kd l k).2 = y at *
        go_wp2
        go_quiet (fail)
        go_wp2
        go_ret
        exact ⟨⟨_, rfl, by rw [unhide hany]; exact decide_eq_true (by omega)⟩, (unhide HE0).trans (hext.drewN _)⟩
      · have hq : decide ((t, s) = ((kd l k).1, (kd l k).2)) = false := by rw [unhide HD, decide_eq_false hy]
        rw [hq] at heq
        have hz2 := hide (show ∀ j, j < k + 1 → ¬ kd l j = (t, s) from fun j hj => by
          by_cases d : j = k
          · subst d; exact hy
          · exact unhide hz j (by omega))
        clear hq hy HD HM
        generalize (kd l k).1 = x at *
        generalize (kd l k).2 = y at *
        go_wp2
        go_quiet (fail)
        go_wp2
        go_roundw
        case rel => exact ⟨k + 1, by omega, by go_num, hz2, hext.drewN _⟩
        case measure => simp [intOf]; omega
    · obtain rfl : n = k := by omega
      have hany := hide (show l.any (fun e => decide (e = (t, s))) = false from by
        rw [List.any_eq_false]
        intro x hx
        obtain ⟨j, hj, rfl⟩ := List.getElem_of_mem hx
        have := unhide hz j (by have := unhide HL; omega)
        unfold kd at this
        rw [List.getD_eq_getElem?_getD, List.getElem?_eq_getElem hj, Option.getD_some] at this
        simpa using this)
      go_wp2
      go_ret
      exact ⟨⟨_, rfl, by rw [unhide hany]; rfl⟩, (unhide HE0).trans hext⟩

set_option maxRecDepth 100000 in
theorem hask_ok (A : Option Addr) (n c : Nat) (l : List (Nat × ByteArray)) (t : Nat) (s : ByteArray) (w : World) (R : Row w A n 3 (kps l)) (hm : n ≤ 4611686018427387904) :
    Calls Tryz.prog 90 #[.slice A n c, .agg #[.int .i64 (t : Int), .int .i64 0, .string s]] w fun e w' => e = .returned (.bool (l.any fun e => decide (e = (t, s)))) ∧ Ext w w' := by
  have E1 := (Ext.refl w).alloc (.cells #[.int .i64 (t : Int), .int .i64 0, .string s] 135)
  have CI := hide (idxk_ok A n c l t s _ (R.keep E1) hm)
  have HE1 := hide E1
  clear R E1
  generalize (l.any fun e => decide (e = (t, s))) = q at *
  go_enter Tryz.func90, Tryz.ntmps90
  go_wp2_with fail
  refine (unhide CI).mono ?_
  rintro e w' ⟨⟨r, rfl, hr⟩, E2⟩
  go_wp2
  go_ret
  exact ⟨rfl, (unhide HE1).trans E2⟩
end Go.Proofs.YtpenkbhljkmliaaGreatDoor

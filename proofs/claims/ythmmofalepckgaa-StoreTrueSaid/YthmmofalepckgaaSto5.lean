/-
  The contract of (*Store).up.
-/
import Derived.Test.YthmmofalepckgaaSto4
set_option linter.unusedVariables false
set_option linter.unusedSimpArgs false
namespace Go.Proofs.Ythmmofalepckgaa
open Go.RowKit Go.BigFrame

theorem intU : EInfo Try.prog 59 3 (.int .i64 0) 1 8 := EInfo.mk_ Try.underlying59 (by kernel_rfl) rfl (by omega)
/-- The nodes that are up, of the first x. -/
def Sto.upsTo (σ : Sto) (x : Nat) : List Nat := (List.range x).filter fun i => !σ.down i
theorem Sto.upsTo_all (σ : Sto) : σ.upsTo σ.N = σ.ups := rfl
theorem Sto.upsTo_le (σ : Sto) (x : Nat) : (σ.upsTo x).length ≤ x := by
  have := List.length_filter_le (fun i => !σ.down i) (List.range x)
  simpa [Sto.upsTo] using this
theorem Sto.upsTo_yes (σ : Sto) {x : Nat} (h : σ.down x = false) : σ.upsTo (x + 1) = σ.upsTo x ++ [x] := by
  unfold Sto.upsTo
  rw [List.range_succ, List.filter_append]
  simp [h]
theorem Sto.upsTo_no (σ : Sto) {x : Nat} (h : σ.down x = true) : σ.upsTo (x + 1) = σ.upsTo x := by
  unfold Sto.upsTo
  rw [List.range_succ, List.filter_append]
  simp [h]

set_option maxRecDepth 100000 in
set_option maxHeartbeats 2000000 in
theorem up_ok {b0 p g : Nat} {w : World} {v : Nat → Nat → Value} {σ : Sto} (S : St b0 w p g v σ) (hN : σ.N ≤ 10) :
    Calls Try.prog 19 #[.pointer (some ⟨p, 0, none⟩)] w fun e w' => (∃ u, e = .returned u ∧ w'.ownsRow w.heap.size 3 1 u σ.ups.length (nats .i64 σ.ups)) ∧ Ext w w' := by
  have HS := hide S
  have c4 := S.cnodes
  clear S
  obtain ⟨N, hN'⟩ : ∃ N, N = σ.N := ⟨_, rfl⟩
  rw [← hN'] at c4 hN
  have HN := hide hN'
  clear hN'
  go_enter Try.func19, Try.ntmps19
  go_wp2
  go_loopw [3, 11] (fun u i wr => ∃ x : Nat, x ≤ N ∧ i = .int .i64 x ∧ Hid (wr.ownsRow w.heap.size 3 1 u (σ.upsTo x).length (nats .i64 (σ.upsTo x))) ∧ Ext w wr) (fun _ i _ => N - (intOf i).toNat)
  case atStart => exact ⟨0, Nat.zero_le _, rfl, hide (World.ownsRow_nil _ _ _ _), Ext.refl w⟩
  case round =>
    obtain ⟨x, hx, rfl, HOW, hext⟩ := hrel
    by_cases hlt : x < N
    · have hxN : x < σ.N := by rw [← unhide HN]; exact hlt
      have S1 := (unhide HS).keep hext
      have d0 := S1.cdown x hxN
      have d1 := S1.ckept x 0 hxN (by omega)
      have d2 := S1.ckept x 1 hxN (by omega)
      have d3 := S1.ckept x 2 hxN (by omega)
      obtain ⟨A0, k0, e0, -⟩ := S1.row (k := 0) hxN (by omega)
      obtain ⟨A1, k1, e1, -⟩ := S1.row (k := 1) hxN (by omega)
      obtain ⟨A2, k2, e2, -⟩ := S1.row (k := 2) hxN (by omega)
      rw [e0] at d1
      rw [e1] at d2
      rw [e2] at d3
      clear S1 e0 e1 e2
      generalize (σ.kept x 0).length = n0 at *
      generalize (σ.kept x 1).length = n1 at *
      generalize (σ.kept x 2).length = n2 at *
      have hxI : (x : Int) < (N : Int) := by omega
      obtain ⟨q, hq⟩ : ∃ q, q = σ.down x := ⟨_, rfl⟩
      rw [← hq] at d0
      have HQ := hide hq
      clear hq
      have hbd : ((σ.upsTo x).length + 1) * 8 ≤ 140737488355328 ∧ (σ.upsTo x).length + 1 ≤ 9223372036854775807 := by have := σ.upsTo_le x; omega
      cases q with
      | true =>
        go_wp2
        go_roundw
        case rel => exact ⟨x + 1, by omega, by go_num, hide (by rw [Sto.upsTo_no σ (unhide HQ).symm]; exact row_ext (unhide HOW) ((Ext.refl _).alloc _)), hext.alloc _⟩
        case measure => simp [intOf]; omega
      | false =>
        have hext2 := hext.alloc (.cells #[.bool false, .slice A0 n0 k0, .slice A1 n1 k1, .slice A2 n2 k2] 66)
        go_wp2_with (at_builtin; refine stop ?_)
        unfold Stop
        refine wpList_app (w := wr.alloc (.cells #[.bool false, .slice A0 n0 k0, .slice A1 n1 k1, .slice A2 n2 k2] 66)) (cs := #[.int .i64 (x : Int)]) rfl _ _ 59 (by rfl) 3 intU hext2 _ _ _ (by rfl) (row_ext (unhide HOW) ((Ext.refl _).alloc _)) 1 1 (by show Value.slice (some ⟨wr.heap.size + 1, 0, none⟩) 1 1 = _; simp) rfl rfl hbd ?_
        intro v' w2 hown' hext' _
        have hown2 : Hid (w2.ownsRow w.heap.size 3 1 v' (σ.upsTo (x + 1)).length (nats .i64 (σ.upsTo (x + 1)))) := hide (by
          rw [Sto.upsTo_yes σ (unhide HQ).symm, ← nats_append, List.length_append]
          exact hown')
        clear hown' hext2
        go_wp2
        go_roundw
        case rel => exact ⟨x + 1, by omega, by go_num, hown2, hext'⟩
        case measure => simp [intOf]; omega
    · obtain rfl : N = x := by omega
      have HOW2 := hide (by have := unhide HOW; rw [unhide HN, Sto.upsTo_all] at this; exact this)
      go_wp2
      go_ret
      exact ⟨⟨_, rfl, unhide HOW2⟩, hext⟩
end Go.Proofs.Ythmmofalepckgaa

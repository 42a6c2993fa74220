/-
  store.New; deeds one after the other; wholekeep.worked.
-/
import Derived.Test.YtfhalkijbenhdaaSto16
import Derived.Test.YtfhalkijbenhdaaSto3
import Derived.Test.YtfhalkijbenhdaaTri
set_option linter.unusedVariables false
set_option linter.unusedSimpArgs false
namespace Go.Proofs.Ytfhalkijbenhdaa
open Go.RowKit Go.BigFrame

/-- What quorum.Check answers. -/
def qErr (n k x y : Int) : Int := if (1 ≤ n ∧ n ≤ 10) ∧ (1 ≤ k ∧ k ≤ n) ∧ (1 ≤ x ∧ x ≤ n) ∧ (1 ≤ y ∧ y ≤ n) then (if x + y < n + k then 9 else 0) else 1
set_option maxRecDepth 100000 in
set_option maxHeartbeats 2000000 in
theorem qchk_ok (n k x y : Int) (w : World) : Calls Try.prog 13 #[.agg #[.int .i64 n, .int .i64 k, .int .i64 x, .int .i64 y]] w fun e w' => e = .returned (.int .i64 (qErr n k x y)) ∧ Ext w w' := by
  have hmf : ∀ (fn : Fn) (first cap : Array Value) (w : World), (Instr.makeFunc fn first cap).run Try.prog w = .ok (.func fn first cap) w := fun _ _ _ _ => rfl
  by_cases h : (1 ≤ n ∧ n ≤ 10) ∧ (1 ≤ k ∧ k ≤ n) ∧ (1 ≤ x ∧ x ≤ n) ∧ (1 ≤ y ∧ y ≤ n)
  · unfold qErr
    rw [if_pos h]
    obtain ⟨hn, hk, hx, hy⟩ := h
    go_enter Try.func13, Try.ntmps13
    go_wp2
    all_goals
      go_ret
      exact ⟨rfl, (Ext.refl _).alloc _⟩
  · unfold qErr
    rw [if_neg h]
    have core : ∀ (_ : n < 1 ∨ (1 ≤ n ∧ 10 < n) ∨ (1 ≤ n ∧ n ≤ 10 ∧ k < 1) ∨ (1 ≤ n ∧ n ≤ 10 ∧ 1 ≤ k ∧ n < k) ∨ (1 ≤ n ∧ n ≤ 10 ∧ 1 ≤ k ∧ k ≤ n ∧ x < 1) ∨ (1 ≤ n ∧ n ≤ 10 ∧ 1 ≤ k ∧ k ≤ n ∧ 1 ≤ x ∧ n < x) ∨ (1 ≤ n ∧ n ≤ 10 ∧ 1 ≤ k ∧ k ≤ n ∧ 1 ≤ x ∧ x ≤ n ∧ y < 1) ∨ (1 ≤ n ∧ n ≤ 10 ∧ 1 ≤ k ∧ k ≤ n ∧ 1 ≤ x ∧ x ≤ n ∧ 1 ≤ y ∧ n < y)),
        Calls Try.prog 13 #[.agg #[.int .i64 n, .int .i64 k, .int .i64 x, .int .i64 y]] w fun e w' => e = .returned (.int .i64 1) ∧ Ext w w' := by
      clear h
      rintro (h | ⟨h1, h2⟩ | ⟨h1, h2, h3⟩ | ⟨h1, h2, h3, h4⟩ | ⟨h1, h2, h3, h4, h5⟩ | ⟨h1, h2, h3, h4, h5, h6⟩ | ⟨h1, h2, h3, h4, h5, h6, h7⟩ | ⟨h1, h2, h3, h4, h5, h6, h7, h8⟩)
      all_goals
        try have hd : decide (y ≤ n) = false := decide_eq_false (by omega)
        go_enter Try.func13, Try.ntmps13
        go_wp2
        go_ret
        exact ⟨rfl, (Ext.refl _).alloc _⟩
    exact core (by omega)

theorem nodeR : EInfo Try.prog 81 80 (.agg #[.bool false, .slice none 0 0, .slice none 0 0, .slice none 0 0]) 4 80 := EInfo.mk_ Try.underlying81 (by kernel_rfl) rfl (by omega)
theorem made_at (z : Array Value) (m : Nat) {j : Nat} (h : j < m) : (madeCells z m)[j]? = some (z[j % z.size]!) := by
  unfold madeCells
  simp [h]
/-- A store that has just been made. -/
theorem St.make (w : World) {b0 n : Nat} (k x y : Nat) (hb : b0 ≤ w.heap.size) : St b0 ((w.alloc (.cells (madeCells #[.bool false, .slice none 0 0, .slice none 0 0, .slice none 0 0] (n * 4)) 80)).alloc (.cells #[.int .i64 (n : Int), .int .i64 (k : Int), .int .i64 (x : Int), .int .i64 (y : Int), .slice (some ⟨w.heap.size, 0, none⟩) n n, .int .i64 0] 83))
    (w.heap.size + 1) w.heap.size (fun _ _ => .slice none 0 0) (Sto.new n k x y) := by
  have h2 := new2 w (madeCells #[.bool false, .slice none 0 0, .slice none 0 0, .slice none 0 0] (n * 4)) #[.int .i64 (n : Int), .int .i64 (k : Int), .int .i64 (x : Int), .int .i64 (y : Int), .slice (some ⟨w.heap.size, 0, none⟩) n n, .int .i64 0] 80 83
  have hsz : ((w.alloc (.cells (madeCells #[.bool false, .slice none 0 0, .slice none 0 0, .slice none 0 0] (n * 4)) 80)).alloc (.cells #[.int .i64 (n : Int), .int .i64 (k : Int), .int .i64 (x : Int), .int .i64 (y : Int), .slice (some ⟨w.heap.size, 0, none⟩) n n, .int .i64 0] 83)).heap.size = w.heap.size + 2 := by simp
  exact {
    p_lo := by omega
    p_hi := by rw [hsz]; omega
    g_lo := hb
    g_hi := by rw [hsz]; omega
    pg := by omega
    cN := (h2 0).2.1
    cK := (h2 1).2.1
    cW := (h2 2).2.1
    cR := (h2 3).2.1
    cnodes := (h2 4).2.1
    cwr := (h2 5).2.1
    fwr := (h2 5).2.2
    fg := fun j => (((Ext.refl (w.alloc (.cells (madeCells #[.bool false, .slice none 0 0, .slice none 0 0, .slice none 0 0] (n * 4)) 80))).alloc _).frozen (p := ⟨w.heap.size, j, none⟩) (by simp)).trans (new_frozen _ _ _ _)
    cdown := fun i hi => by
      have hi : i < n := hi
      rw [(h2 (i * 4)).1, made_at _ _ (by omega)]
      have : i * 4 % 4 = 0 := by omega
      show some ((#[Value.bool false, .slice none 0 0, .slice none 0 0, .slice none 0 0] : Array Value)[i * 4 % 4]!) = _
      rw [this]; rfl
    ckept := fun i j hi hj => by
      have hi : i < n := hi
      rw [(h2 (i * 4 + 1 + j)).1, made_at _ _ (by omega)]
      show some ((#[Value.bool false, .slice none 0 0, .slice none 0 0, .slice none 0 0] : Array Value)[(i * 4 + 1 + j) % 4]!) = _
      rcases (show j = 0 ∨ j = 1 ∨ j = 2 by omega) with rfl | rfl | rfl
      · rw [show (i * 4 + 1 + 0) % 4 = 1 by omega]; rfl
      · rw [show (i * 4 + 1 + 1) % 4 = 2 by omega]; rfl
      · rw [show (i * 4 + 1 + 2) % 4 = 3 by omega]; rfl
    own := fun i j hi hj => World.ownsRow_nil _ _ _ _
    offp := fun i j _ _ h => by cases h
    offg := fun i j _ _ h => by cases h
    apart := fun i j a b _ _ _ _ _ q h => by cases h }
set_option maxRecDepth 100000 in
set_option maxHeartbeats 2000000 in
theorem New_bad (n k x y : Int) (w : World) (h : qErr n k x y ≠ 0) : Calls Try.prog 27 #[.agg #[.int .i64 n, .int .i64 k, .int .i64 x, .int .i64 y]] w fun e w' => e = .returned (.tuple #[.pointer none, .int .i64 (qErr n k x y)]) ∧ Ext w w' := by
  have CQ := hide (fun W => qchk_ok n k x y W)
  have hB : (qErr n k x y != 0) = true := by rw [bne_iff_ne]; exact h
  clear h
  generalize qErr n k x y = r at *
  go_enter Try.func27, Try.ntmps27
  go_wp2_with fail
  refine (unhide CQ _).mono ?_
  rintro e w1 ⟨rfl, E1⟩
  go_wp2
  go_ret2
  exact ⟨rfl, ((Ext.refl w).alloc _).trans E1⟩
set_option maxRecDepth 100000 in
set_option maxHeartbeats 2000000 in
theorem New_ok (n k x y : Nat) (w : World) (h : qErr n k x y = 0) : Calls Try.prog 27 #[.agg #[.int .i64 (n : Int), .int .i64 (k : Int), .int .i64 (x : Int), .int .i64 (y : Int)]] w fun e w' =>
    (∃ p g v, e = .returned (.tuple #[.pointer (some ⟨p, 0, none⟩), .int .i64 0]) ∧ St w.heap.size w' p g v (Sto.new n k x y)) ∧ Ext w w' := by
  have hn : n ≤ 10 := by
    unfold qErr at h
    by_cases c : (1 ≤ (n : Int) ∧ (n : Int) ≤ 10) ∧ (1 ≤ (k : Int) ∧ (k : Int) ≤ n) ∧ (1 ≤ (x : Int) ∧ (x : Int) ≤ n) ∧ (1 ≤ (y : Int) ∧ (y : Int) ≤ n)
    · omega
    · rw [if_neg c] at h; omega
  have CQ := hide (fun W => qchk_ok n k x y W)
  rw [h] at CQ
  have hmk : ∀ w : World, (Instr.makeSlice 81 (.int .i64 (n : Int)) (.int .i64 (n : Int))).run Try.prog w = .ok (.slice (some ⟨w.heap.size, 0, none⟩) n n) (w.alloc (.cells (madeCells #[.bool false, .slice none 0 0, .slice none 0 0, .slice none 0 0] (n * 4)) 80)) := fun w =>
    make_run nodeR n n (Nat.le_refl _) (by omega) (by omega) w
  obtain ⟨W0, hW0⟩ : ∃ W0, W0 = w.alloc (.cells #[.int .i64 (n : Int), .int .i64 (k : Int), .int .i64 (x : Int), .int .i64 (y : Int)] 23) := ⟨_, rfl⟩
  have HW0 := hide hW0
  have E0 : Ext w W0 := by rw [hW0]; exact (Ext.refl w).alloc _
  have d0 : W0.cell? ⟨w.heap.size, 0, none⟩ = some (.int .i64 (n : Int)) := by rw [hW0, new_cell]; rfl
  have d1 : W0.cell? ⟨w.heap.size, 1, none⟩ = some (.int .i64 (k : Int)) := by rw [hW0, new_cell]; rfl
  have d2 : W0.cell? ⟨w.heap.size, 2, none⟩ = some (.int .i64 (x : Int)) := by rw [hW0, new_cell]; rfl
  have d3 : W0.cell? ⟨w.heap.size, 3, none⟩ = some (.int .i64 (y : Int)) := by rw [hW0, new_cell]; rfl
  have HE0 := hide E0
  clear hW0 h
  go_enter Try.func27, Try.ntmps27
  go_wp2_with fail
  rw [← unhide HW0]
  refine (unhide CQ _).mono ?_
  rintro e w1 ⟨rfl, E1⟩
  have d0 := E1.keep d0
  have d1 := E1.keep d1
  have d2 := E1.keep d2
  have d3 := E1.keep d3
  have d0A := fun o => ((Ext.refl w1).alloc o).keep d0
  have d1A := fun o => ((Ext.refl w1).alloc o).keep d1
  have d2A := fun o => ((Ext.refl w1).alloc o).keep d2
  have d3A := fun o => ((Ext.refl w1).alloc o).keep d3
  have HE1 := hide ((unhide HE0).trans E1)
  clear CQ E1
  go_upto_region 4 with fail
  apply share
  · intro H
    go_region_law (fail)
    all_goals exact H
  go_wp2
  go_ret2
  exact ⟨⟨w1.heap.size + 1, w1.heap.size, fun _ _ => .slice none 0 0, rfl, (St.make w1 k x y (unhide HE1).size).keep (Ext.refl _).drew⟩, (((unhide HE1).alloc _).alloc _).drew⟩
end Go.Proofs.Ytfhalkijbenhdaa

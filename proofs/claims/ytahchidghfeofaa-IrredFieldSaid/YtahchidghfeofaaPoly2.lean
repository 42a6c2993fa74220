/-
  The contracts of poly.Add, Product and Mul.
-/
import Derived.Test.YtahchidghfeofaaPoly1
import Derived.Laws.CopyOwn
set_option linter.unusedVariables false
set_option linter.unusedSimpArgs false
namespace Go.Proofs.Ytahchidghfeofaa
open Go.RowKit Go.BigFrame

theorem mk_int (n : Nat) (hn : n ≤ 100000) (w : World) : (Instr.makeSlice 22 (.int .i64 (n : Int)) (.int .i64 (n : Int))).run Try.prog w = .ok (.slice (some ⟨w.heap.size, 0, none⟩) n n) (w.alloc (.cells (madeCells #[.int .i64 0] n) 3)) := by
  have := make_run intQ n n (Nat.le_refl _) (by omega) (by omega) w
  rw [Nat.mul_one] at this
  exact this
/-- make, as numbers. -/
theorem Made.mkq {w : World} {base : Nat} (n : Nat) (hb : base ≤ w.heap.size) (hn : n ≤ 100000) (f : Nat → Nat) (h : ∀ k, k < n → f k = 0) :
    Made (w.alloc (.cells (madeCells #[.int .i64 0] n) 3)) base 3 1 (.slice (some ⟨w.heap.size, 0, none⟩) n n) n (nats .i64 (Wm.mkL n f)) := by
  have := Made.make (w := w) (base := base) (e := 3) (.int .i64 0) n hb (by omega)
  have e : nats .i64 (Wm.mkL n f) = List.replicate n (Value.int .i64 0) := by
    apply List.ext_getElem (by simp [nats, Wm.mkL])
    intro j h1 h2
    have hj : j < n := by simpa using h2
    simp [nats, Wm.mkL, h j hj]
  rw [e]
  exact this
/-- What is set at one place. -/
theorem Made.setq {w : World} {base : Nat} {g n c : Nat} {f : Nat → Nat} (h : Made w base 3 1 (.slice (some ⟨g, 0, none⟩) n c) n (nats .i64 (Wm.mkL n f))) {k : Nat} (hk : k < n) (x : Nat) (f' : Nat → Nat) (hf : ∀ j, j < n → f' j = if j = k then x else f j) :
    Made (w.setCell ⟨g, k, none⟩ (.int .i64 (x : Int))) base 3 1 (.slice (some ⟨g, 0, none⟩) n c) n (nats .i64 (Wm.mkL n f')) := by
  have := h.set (j := k) (by omega) (.int .i64 (x : Int))
  rw [nats_set, Wm.mkL_set f hk x] at this
  rwa [Wm.mkL_congr hf]
theorem Made.getq {w : World} {base : Nat} {g n c : Nat} {f : Nat → Nat} (h : Made w base 3 1 (.slice (some ⟨g, 0, none⟩) n c) n (nats .i64 (Wm.mkL n f))) {k : Nat} (hk : k < n) : w.cell? ⟨g, k, none⟩ = some (.int .i64 ((f k : Nat) : Int)) := by
  rw [h.nat hk, Wm.mkL_get f hk]
theorem Made.pvq {w : World} {base : Nat} {g n c : Nat} {l : List Nat} (h : Made w base 3 1 (.slice (some ⟨g, 0, none⟩) n c) n (nats .i64 l)) : Pv w (some ⟨g, 0, none⟩) n c l := by
  obtain ⟨A, c', e, P⟩ := h.pv
  injection e with e1 e2 e3
  subst e1; subst e3
  exact P
theorem Made.spl {w : World} {base g L : Nat} {f : List Nat} (h : w.heap[g]? = some (.cells (splice (List.replicate L (Value.int .i64 0)) 0 (nats .i64 f)).toArray 3 (0, 0))) (hb : base ≤ g) (hf : f.length ≤ L) (hL : L ≤ 100000) :
    Made w base 3 1 (.slice (some ⟨g, 0, none⟩) L L) L (nats .i64 (Wm.mkL L fun k => f.getD k 0)) := by
  refine ⟨by rw [nats_length, Wm.mkL_length, Nat.mul_one], .inr ⟨g, L, _, rfl, hb, h, Nat.le_refl _, by unfold maxLen; omega, ?_, ?_⟩⟩
  · rw [List.size_toArray, length_splice _ _ _ (by rw [nats_length]; simp; omega)]; simp
  · apply List.ext_getElem?
    intro j
    rw [Nat.mul_one]
    by_cases hj : j < L
    · rw [List.getElem?_take_of_lt hj, nats_get _ _ _ (by rw [Wm.mkL_length]; exact hj), Wm.mkL_get _ hj]
      show (splice _ 0 _)[j]? = _
      simp only [splice, List.take_zero, List.nil_append, Nat.zero_add]
      by_cases hjf : j < f.length
      · rw [List.getElem?_append_left (by rw [nats_length]; exact hjf), nats_get _ _ _ hjf]
      · rw [List.getElem?_append_right (by rw [nats_length]; omega), nats_length, List.drop_replicate, List.getElem?_replicate, if_pos (by omega), Wm.getD_big (by omega)]; rfl
    · rw [List.getElem?_eq_none (by rw [List.length_take]; omega), List.getElem?_eq_none (by rw [nats_length, Wm.mkL_length]; omega)]

end Go.Proofs.Ytahchidghfeofaa

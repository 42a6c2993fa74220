/-
  The walk of the law MatrixTimes.
-/
import Derived.Test.YtepkiicekcglhaaMx6
set_option linter.unusedVariables false
set_option linter.unusedSimpArgs false
namespace Go.Proofs.Ytepkiicekcglhaa
open Go.RowKit Go.BigFrame Wm.Fld

theorem tabL1' (w : World) (r : List Nat) (hr : ∀ x ∈ r, x < 256) (hl : r.length ≤ 1000) {b0 b1 : Nat} (h0 : b0 = w.heap.size) (h1 : b1 = w.heap.size + 1) :
    Tab ((w.alloc (.cells (nats .u8 r).toArray 5)).alloc (.cells #[.slice (some ⟨b0, 0, none⟩) r.length r.length] 23)) (some ⟨b1, 0, none⟩) 1 (fun _ => some ⟨b0, 0, none⟩) (fun _ => r.length) (fun _ => r.length) (litM [r]) := by
  subst h0; subst h1; exact tabL1 w r hr hl
theorem tabL2' (w : World) (r s : List Nat) (hr : ∀ x ∈ r, x < 256) (hs : ∀ x ∈ s, x < 256) (hl : r.length ≤ 1000) (hl2 : s.length ≤ 1000) {b0 b1 b2 : Nat} (h0 : b0 = w.heap.size) (h1 : b1 = w.heap.size + 1) (h2 : b2 = w.heap.size + 2) :
    Tab (((w.alloc (.cells (nats .u8 r).toArray 5)).alloc (.cells (nats .u8 s).toArray 5)).alloc (.cells #[.slice (some ⟨b0, 0, none⟩) r.length r.length, .slice (some ⟨b1, 0, none⟩) s.length s.length] 23)) (some ⟨b2, 0, none⟩) 2
      (fun i => some ⟨w.heap.size + i, 0, none⟩) (fun i => ([r, s].getD i []).length) (fun i => ([r, s].getD i []).length) (litM [r, s]) := by
  subst h0; subst h1; subst h2; exact tabL2 w r s hr hs hl hl2
theorem Tb.row {w : World} {base g n : Nat} {bl cp : Nat → Nat} {l : Nat} {M : Nat → Nat → Nat} (T : Tb w base g n bl cp l M) {i : Nat} (hi : i < n) : Row w (some ⟨bl i, 0, none⟩) l 1 (nats .u8 ((List.range l).map (M i))) := T.tab.rowN hi

theorem chkM_const {n l : Nat} (h1 : 1 ≤ n) (h2 : n ≤ 12) (h3 : 1 ≤ l) (h4 : l ≤ 12) : chkM n (fun _ => l) = 0 := chkM_of h1 h2 h3 h4 fun _ _ => rfl
theorem times_plain {A B C : Nat → Nat → Nat} (hA : ∀ i j, A i j < 256) (hB : ∀ i j, B i j < 256) (hC : ∀ i j, C i j < 256) (k l i j : Nat) : Wm.mulT l (Wm.mulT k A B) C i j = Wm.mulT k A (Wm.mulT l B C) i j := by
  have h1 : ∀ i j, Wm.mulT k A B i j < 256 := fun i j => Wm.mulS_lt hA hB i j k
  have h2 : ∀ i j, Wm.mulT l B C i j < 256 := fun i j => Wm.mulS_lt hB hC i j l
  refine Wm.m8m_inj (M := Wm.mulT l (Wm.mulT k A B) C) (N := Wm.mulT k A (Wm.mulT l B C)) (fun i j => Wm.mulS_lt h1 hC i j l) (fun i j => Wm.mulS_lt hA h2 i j k) ?_
  rw [Wm.mulT_mm h1 hC, Wm.mulT_mm hA h2]
  show mm l (Wm.m8m (Wm.mulT k A B)) (Wm.m8m C) i j = mm k (Wm.m8m A) (Wm.m8m (Wm.mulT l B C)) i j
  rw [Wm.mulT_mm hA hB, Wm.mulT_mm hB hC, mm_assoc]

end Go.Proofs.Ytepkiicekcglhaa

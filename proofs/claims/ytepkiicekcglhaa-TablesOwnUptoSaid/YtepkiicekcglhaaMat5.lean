/-
  Plain: the rank: through how few places a matrix goes; of a product it is no more than that of each, and no less than both, less what they have in common. No program in sight.
-/
import Derived.Test.YtepkiicekcglhaaMat4
set_option linter.unusedVariables false
set_option linter.unusedSimpArgs false
set_option linter.unusedSectionVars false
namespace Wm
namespace Fld
variable {K : Type}
theorem Eqm.turn {m n : Nat} {A B : Nat → Nat → K} (h : Eqm m n A B) : Eqm n m (tr A) (tr B) := fun i j hi hj => h j i hj hi
variable [Fld K]
/-- A goes through r places, and so many units can be cut out of it. -/
def Rk (m n r : Nat) (A : Nat → Nat → K) : Prop :=
  ∃ X Y L M : Nat → Nat → K, Eqm m n A (mm r X Y) ∧ Eqm r r (mm m L (mm n A M)) idm
theorem mm_right {m n l : Nat} (A : Nat → Nat → K) {B B' : Nat → Nat → K} (h : Eqm n l B B') : Eqm m l (mm n A B) (mm n A B') := mm_congr (Eqm.refl m n A) h
theorem mm_left {m n l : Nat} {A A' : Nat → Nat → K} (B : Nat → Nat → K) (h : Eqm m n A A') : Eqm m l (mm n A B) (mm n A' B) := mm_congr h (Eqm.refl n l B)
theorem Rk.least {m n r s : Nat} {A X Y : Nat → Nat → K} (h : Rk m n r A) (k : Eqm m n A (mm s X Y)) : r ≤ s := by
  obtain ⟨_, _, L, M, _, h⟩ := h
  have e : Eqm r r (mm m L (mm n A M)) (mm m L (mm n (mm s X Y) M)) := mm_right L (mm_left M k)
  have e2 := e.symm.trans h
  rw [mm_assoc, ← mm_assoc] at e2
  exact no_thin e2
theorem Rk.unique {m n r s : Nat} {A : Nat → Nat → K} (h : Rk m n r A) (k : Rk m n s A) : r = s := by
  have ⟨_, _, _, _, hA, _⟩ := k
  have ⟨_, _, _, _, hA', _⟩ := h
  have h1 := h.least hA
  have h2 := k.least hA'
  omega
theorem Rk.rows {m n r : Nat} {A : Nat → Nat → K} (h : Rk m n r A) : r ≤ m := h.least (id_mm A).symm
theorem Rk.cols {m n r : Nat} {A : Nat → Nat → K} (h : Rk m n r A) : r ≤ n := h.least (mm_id A).symm
theorem Rk.left {m k n x z : Nat} {A B : Nat → Nat → K} (hA : Rk m k x A) (h : Rk m n z (mm k A B)) : z ≤ x := by
  obtain ⟨X, Y, _, _, hX, _⟩ := hA
  refine h.least (X := X) (Y := mm k Y B) ?_
  rw [← mm_assoc]; exact mm_left B hX
theorem Rk.right {m k n y z : Nat} {A B : Nat → Nat → K} (hB : Rk k n y B) (h : Rk m n z (mm k A B)) : z ≤ y := by
  obtain ⟨X, Y, _, _, hX, _⟩ := hB
  refine h.least (X := mm k A X) (Y := Y) ?_
  rw [mm_assoc]; exact mm_right A hX
theorem Rk.turn {m n r : Nat} {A : Nat → Nat → K} (h : Rk m n r A) : Rk n m r (tr A) := by
  obtain ⟨X, Y, L, M, hX, hI⟩ := h
  refine ⟨tr Y, tr X, tr M, tr L, ?_, ?_⟩
  · rw [← tr_mm]; exact hX.turn
  · have := hI.turn
    rw [tr_id, tr_mm, tr_mm, mm_assoc] at this
    exact this
theorem sm_plus (f : Nat → K) (k : Nat) : ∀ l, sm f (k + l) = ad (sm f k) (sm (fun i => f (k + i)) l)
  | 0 => (ad_z _).symm
  | l + 1 => by
    show ad (sm f (k + l)) (f (k + l)) = ad (sm f k) (ad (sm (fun i => f (k + i)) l) (f (k + l)))
    rw [sm_plus f k l, ad_assoc]
theorem mm_ng (n : Nat) (A B : Nat → Nat → K) (i j : Nat) : sm (fun k => ml (ng (A i k)) (B k j)) n = ng (mm n A B i j) := by
  have : sm (fun k => ml (ng (A i k)) (B k j)) n = sm (fun k => ml (ng o) (ml (A i k) (B k j))) n := sm_congr n fun k _ => by rw [ng_ml, ng_ml, o_ml]
  rw [this, sm_ml, ng_ml, o_ml]; rfl
theorem mm_sb (n : Nat) (A B C : Nat → Nat → K) (i j : Nat) : sm (fun k => ml (sb (A i k) (B i k)) (C k j)) n = sb (mm n A C i j) (mm n B C i j) := by
  have : sm (fun k => ml (sb (A i k) (B i k)) (C k j)) n = sm (fun k => ad (ml (A i k) (C k j)) (ml (ng (B i k)) (C k j))) n := sm_congr n fun k _ => by rw [sb_ml, ng_ml]; rfl
  rw [this, sm_ad, mm_ng]; rfl
/-- No less than both, less what they have in common. -/
theorem Rk.both {m k n x y s : Nat} {A B : Nat → Nat → K} (hA : Rk m k x A) (hB : Rk k n y B) (h : Rk m n s (mm k A B)) : x + y ≤ s + k := by
  obtain ⟨_, _, L, M, _, hI⟩ := hA
  obtain ⟨_, _, P, Q, _, hJ⟩ := hB
  obtain ⟨X, Y, _, _, hX, _⟩ := h
  obtain ⟨LA, hLA⟩ : ∃ T, T = mm m L A := ⟨_, rfl⟩
  obtain ⟨LX, hLX⟩ : ∃ T, T = mm m L X := ⟨_, rfl⟩
  obtain ⟨BQ, hBQ⟩ : ∃ T, T = mm n B Q := ⟨_, rfl⟩
  obtain ⟨YQ, hYQ⟩ : ∃ T, T = mm n Y Q := ⟨_, rfl⟩
  obtain ⟨PM, hPM⟩ : ∃ T, T = mm k P M := ⟨_, rfl⟩
  have e1 : Eqm x x (mm k LA M) idm := by rw [hLA, mm_assoc]; exact hI
  have e2 : Eqm y y (mm k P BQ) idm := by rw [hBQ]; exact hJ
  have e3 : Eqm x y (mm k LA BQ) (mm s LX YQ) := by
    rw [hLA, hBQ, hLX, hYQ, mm_assoc, mm_assoc, ← mm_assoc k n A, ← mm_assoc s n X]
    exact mm_right L (mm_left Q hX)
  let U : Nat → Nat → K := fun i j => if i < x then (if j < k then LA i j else ng (LX i (j - k))) else (if j < k then sb (P (i - x) j) (mm x PM LA (i - x) j) else mm x PM LX (i - x) (j - k))
  let V : Nat → Nat → K := fun i j => if i < k then (if j < x then M i j else BQ i (j - x)) else (if j < x then z else YQ (i - k) (j - x))
  have hUV : Eqm (x + y) (x + y) (mm (k + s) U V) idm := fun i j hi hj => by
    show sm (fun t => ml (U i t) (V t j)) (k + s) = _
    rw [sm_plus]
    rcases Nat.lt_or_ge i x with a | a <;> rcases Nat.lt_or_ge j x with b | b
    · have p1 : sm (fun t => ml (U i t) (V t j)) k = mm k LA M i j := sm_congr k fun t ht => by
        simp only [U, V, if_pos a, if_pos b, if_pos ht]
      have p2 : sm (fun t => ml (U i (k + t)) (V (k + t) j)) s = z := sm_z s fun t _ => by
        simp only [V, if_pos b, if_neg (show ¬ k + t < k by omega)]; exact ml_z _
      rw [p1, p2, ad_z, e1 i j a b]
    · have p1 : sm (fun t => ml (U i t) (V t j)) k = mm k LA BQ i (j - x) := sm_congr k fun t ht => by
        simp only [U, V, if_pos a, if_neg (show ¬ j < x by omega), if_pos ht]
      have p2 : sm (fun t => ml (U i (k + t)) (V (k + t) j)) s = ng (mm s LX YQ i (j - x)) := by
        rw [← mm_ng]
        exact sm_congr s fun t _ => by
          simp only [U, V, if_pos a, if_neg (show ¬ j < x by omega), if_neg (show ¬ k + t < k by omega), show k + t - k = t by omega]
      rw [p1, p2, e3 i (j - x) a (by omega), ad_ng]
      unfold idm; rw [if_neg (by omega)]
    · have p1 : sm (fun t => ml (U i t) (V t j)) k = sb (mm k P M (i - x) j) (mm k (mm x PM LA) M (i - x) j) := by
        rw [← mm_sb]
        exact sm_congr k fun t ht => by simp only [U, V, if_neg (show ¬ i < x by omega), if_pos b, if_pos ht]
      have p2 : sm (fun t => ml (U i (k + t)) (V (k + t) j)) s = z := sm_z s fun t _ => by
        simp only [V, if_pos b, if_neg (show ¬ k + t < k by omega)]; exact ml_z _
      have p3 : mm k (mm x PM LA) M (i - x) j = mm k P M (i - x) j := by
        rw [mm_assoc, (mm_right (m := y) PM e1) (i - x) j (by omega) b, mm_id (m := y) PM (i - x) j (by omega) b, hPM]
      rw [p1, p2, ad_z, p3, sb_self]
      unfold idm; rw [if_neg (by omega)]
    · have p1 : sm (fun t => ml (U i t) (V t j)) k = sb (mm k P BQ (i - x) (j - x)) (mm k (mm x PM LA) BQ (i - x) (j - x)) := by
        rw [← mm_sb]
        exact sm_congr k fun t ht => by simp only [U, V, if_neg (show ¬ i < x by omega), if_neg (show ¬ j < x by omega), if_pos ht]
      have p2 : sm (fun t => ml (U i (k + t)) (V (k + t) j)) s = mm s (mm x PM LX) YQ (i - x) (j - x) := sm_congr s fun t _ => by
        simp only [U, V, if_neg (show ¬ i < x by omega), if_neg (show ¬ j < x by omega), if_neg (show ¬ k + t < k by omega), show k + t - k = t by omega]
      have p3 : mm k (mm x PM LA) BQ (i - x) (j - x) = mm s (mm x PM LX) YQ (i - x) (j - x) := by
        rw [mm_assoc, mm_assoc]; exact mm_right (m := y) PM e3 (i - x) (j - x) (by omega) (by omega)
      rw [p1, p2, p3, sb_ad, e2 (i - x) (j - x) (by omega) (by omega)]
      unfold idm
      by_cases e : i = j
      · rw [if_pos (by omega), if_pos e]
      · rw [if_neg (by omega), if_neg e]
  have := no_thin hUV
  omega
end Fld
end Wm

/-
  Plain: the determinant of the turned matrix, over a field where twice anything is nothing. No program in sight.
-/
import Derived.Test.YtepkiicekcglhaaMat3
set_option linter.unusedVariables false
set_option linter.unusedSimpArgs false
set_option linter.unusedSectionVars false
namespace Wm
namespace Fld
variable {K : Type} [Fld K]
/-- The determinant by the first row. -/
def dr (n : Nat) (A : Nat → Nat → K) : K := dt n (tr A)
/-- Without the first row and without column j. -/
def cut (j : Nat) (A : Nat → Nat → K) : Nat → Nat → K := fun i k => A (i + 1) (skip j k)
theorem dr_succ (n : Nat) (A : Nat → Nat → K) : dr (n + 1) A = sm (fun j => ml (A 0 j) (dr n (cut j A))) (n + 1) := rfl
theorem dr_congr (n : Nat) {A B : Nat → Nat → K} (h : Eqm n n A B) : dr n A = dr n B := dt_congr n fun i j hi hj => h j i hj hi
theorem cut_zero (j : Nat) (A : Nat → Nat → K) (u : Nat → K) : cut j (setr A 0 u) = cut j A := by
  funext i k
  show setr A 0 u (i + 1) (skip j k) = _
  rw [setr_ne _ _ (by omega)]; rfl
theorem cut_succ (j r : Nat) (A : Nat → Nat → K) (u : Nat → K) : cut j (setr A (r + 1) u) = setr (cut j A) r (fun k => u (skip j k)) := by
  funext i k
  show setr A (r + 1) u (i + 1) (skip j k) = _
  by_cases e : i = r
  · subst e; rw [setr_at, setr_at]
  · rw [setr_ne _ _ e, setr_ne _ _ (by omega)]; rfl
theorem dr_lin : ∀ (n : Nat) (A : Nat → Nat → K) (r : Nat), r < n → ∀ (u v : Nat → K) (c : K),
    dr n (setr A r (fun j => ad (u j) (ml c (v j)))) = ad (dr n (setr A r u)) (ml c (dr n (setr A r v)))
  | 0, _, r, h, _, _, _ => absurd h (by omega)
  | n + 1, A, r, h, u, v, c => by
    rw [dr_succ, dr_succ, dr_succ, ← sm_ml, ← sm_ad]
    refine sm_congr _ fun j hj => ?_
    cases r with
    | zero => rw [setr_at, setr_at, setr_at, cut_zero, cut_zero, cut_zero, ad_ml, ml_assoc]
    | succ r =>
      rw [setr_ne _ _ (by omega), setr_ne _ _ (by omega), setr_ne _ _ (by omega), cut_succ, cut_succ, cut_succ,
        dr_lin n (cut j A) r (by omega) (fun k => u (skip j k)) (fun k => v (skip j k)) c, ml_ad, ml_left c]
theorem sym_off (h2 : ∀ a : K, ad a a = z) {g : Nat → Nat → K} (hg : ∀ j l, g j l = g l j) : ∀ n, sm (fun j => sm (fun l => if l = j then z else g j l) n) n = z
  | 0 => rfl
  | n + 1 => by
    show ad (sm (fun j => ad (sm (fun l => if l = j then z else g j l) n) (if n = j then z else g j n)) n) (ad (sm (fun l => if l = n then z else g n l) n) (if n = n then z else g n n)) = z
    rw [sm_ad, sym_off h2 hg n, z_ad, if_pos rfl, ad_z]
    have h1 : sm (fun j => if n = j then z else g j n) n = sm (fun l => if l = n then z else g n l) n := sm_congr n fun k hk => by
      rw [if_neg (by omega), if_neg (by omega), hg]
    rw [h1]; exact h2 _
/-- All places but two. -/
def s2 (j l x : Nat) : Nat := if x < min j l then x else if x + 1 < max j l then x + 1 else x + 2
theorem s2_comm (j l x : Nat) : s2 j l x = s2 l j x := by unfold s2; rw [Nat.min_comm, Nat.max_comm]
theorem skip_skip (j k x : Nat) : skip j (skip k x) = s2 j (skip j k) x := by
  unfold skip s2
  rcases Nat.lt_or_ge k j with h | h
  · rw [if_pos h, show min j k = k by omega, show max j k = j by omega]; by_cases hx : x < k
    · simp only [if_pos hx]; repeat' split
      all_goals omega
    · simp only [if_neg hx]; repeat' split
      all_goals omega
  · rw [if_neg (by omega : ¬ k < j), show min j (k + 1) = j by omega, show max j (k + 1) = k + 1 by omega]; by_cases hx : x < k
    · simp only [if_pos hx]; repeat' split
      all_goals omega
    · simp only [if_neg hx]; repeat' split
      all_goals omega
theorem dr_adj (h2 : ∀ a : K, ad a a = z) : ∀ (n : Nat) (A : Nat → Nat → K) (p : Nat), p + 1 < n → (∀ j, j < n → A p j = A (p + 1) j) → dr n A = z
  | 0, _, p, h, _ => absurd h (by omega)
  | n + 1, A, p + 1, h, he => by
    rw [dr_succ]
    exact sm_z _ fun j hj => by
      rw [dr_adj h2 n (cut j A) p (by omega) fun k hk => he _ (skip_lt hk), ml_z]
  | 1, _, 0, h, _ => absurd h (by omega)
  | m + 2, A, 0, h, he => by
    rw [dr_succ]
    have key : ∀ j, j < m + 2 → ml (A 0 j) (dr (m + 1) (cut j A)) =
        sm (fun l => if l = j then z else ml (ml (A 0 j) (A 0 l)) (dr m (fun i x => A (i + 2) (s2 j l x)))) (m + 2) := fun j hj => by
      rw [sm_skip _ j (m + 1) (by omega), if_pos rfl, ad_z, dr_succ, ← sm_ml]
      refine sm_congr _ fun k hk => ?_
      rw [if_neg (skip_ne _ _), he (skip j k) (skip_lt hk), ← ml_assoc]
      have e : cut k (cut j A) = fun i x => A (i + 2) (s2 j (skip j k) x) := by
        funext i x
        show A (i + 1 + 1) (skip j (skip k x)) = _
        rw [skip_skip]
      rw [e]; rfl
    rw [sm_congr _ key]
    exact sym_off h2 (g := fun j l => ml (ml (A 0 j) (A 0 l)) (dr m (fun i x => A (i + 2) (s2 j l x)))) (fun j l => by
      have e : (fun i x => A (i + 2) (s2 j l x)) = fun i x => A (i + 2) (s2 l j x) := by funext i x; rw [s2_comm]
      show ml (ml (A 0 j) (A 0 l)) (dr m (fun i x => A (i + 2) (s2 j l x))) = ml (ml (A 0 l) (A 0 j)) (dr m (fun i x => A (i + 2) (s2 l j x)))
      rw [e, ml_comm (A 0 j)]) _
theorem dr_alt (h2 : ∀ a : K, ad a a = z) (n : Nat) : Alt n (dr n : (Nat → Nat → K) → K) := alt_of h2 (dr_congr n) (dr_lin n) (dr_adj h2 n)
theorem dr_id (n : Nat) : dr n (idm : Nat → Nat → K) = o := by unfold dr; rw [tr_id, dt_id]
/-- The turned matrix has the same determinant. -/
theorem Done.turn (h2 : ∀ a : K, ad a a = z) {n : Nat} {A : Nat → Nat → K} {a b : K} (hA : Done n A a) (hB : Done n (tr A) b) : b = a := by
  rw [hB.dt h2]
  show dr n A = a
  rw [hA.val (dr_alt h2 n), dr_id, ml_o]
/-- A matrix with a partner has a determinant that is not nothing. -/
theorem Done.unit (h2 : ∀ a : K, ad a a = z) {n : Nat} {A B : Nat → Nat → K} {a : K} (hA : Done n A a) (h : Eqm n n (mm n A B) idm) : a ≠ z := fun e => by
  have h1 := hA.val ((dt_alt h2 n).times B)
  have h3 : Fld.dt n (mm n A B) = o := by rw [dt_congr n h, dt_id]
  rw [e, z_ml] at h1
  exact o_ne (h3.symm.trans h1)
end Fld
end Wm

/-
  Plain: the determinant by the first column, over a field where twice anything is nothing. No program in sight.
-/
import Derived.Test.YtepkiicekcglhaaMat1
set_option linter.unusedVariables false
set_option linter.unusedSimpArgs false
set_option linter.unusedSectionVars false
namespace Wm
namespace Fld
variable {K : Type}
def setr (A : Nat → Nat → K) (r : Nat) (u : Nat → K) : Nat → Nat → K := fun k => if k = r then u else A k
theorem setr_at (A : Nat → Nat → K) (r : Nat) (u : Nat → K) : setr A r u r = u := by unfold setr; rw [if_pos rfl]
theorem setr_ne (A : Nat → Nat → K) {r k : Nat} (u : Nat → K) (h : k ≠ r) : setr A r u k = A k := by unfold setr; rw [if_neg h]
theorem setr_self (A : Nat → Nat → K) (r : Nat) : setr A r (A r) = A := by
  funext k; unfold setr; split
  · subst_vars; rfl
  · rfl
theorem setr_setr (A : Nat → Nat → K) (r : Nat) (u v : Nat → K) : setr (setr A r u) r v = setr A r v := by
  funext k; unfold setr; split <;> rfl
variable [Fld K]
/-- Another row at r. -/
theorem setr_comm (A : Nat → Nat → K) {r s : Nat} (u v : Nat → K) (h : r ≠ s) : setr (setr A r u) s v = setr (setr A s v) r u := by
  funext k
  by_cases e : k = r
  · subst e; rw [setr_at, setr_ne _ _ h, setr_at]
  · rw [setr_ne (setr A s v) u e]
    by_cases e' : k = s
    · subst e'; rw [setr_at, setr_at]
    · rw [setr_ne _ _ e', setr_ne _ _ e', setr_ne _ _ e]
/-- Without row i and without the first column. -/
def mi (i : Nat) (A : Nat → Nat → K) : Nat → Nat → K := fun k j => A (skip i k) (j + 1)
def dt : Nat → (Nat → Nat → K) → K
  | 0, _ => o
  | n + 1, A => sm (fun i => ml (A i 0) (dt n (mi i A))) (n + 1)
theorem dt_congr : ∀ (n : Nat) {A B : Nat → Nat → K}, Eqm n n A B → dt n A = dt n B
  | 0, _, _, _ => rfl
  | n + 1, A, B, h => sm_congr _ fun i hi => by
    rw [h i 0 hi (by omega), dt_congr n (A := mi i A) (B := mi i B) fun k j hk hj => h _ _ (skip_lt hk) (by omega)]
theorem mi_self (A : Nat → Nat → K) (i : Nat) (u : Nat → K) : mi i (setr A i u) = mi i A := by
  funext k j
  show setr A i u (skip i k) (j + 1) = _
  rw [setr_ne _ _ (skip_ne i k)]; rfl
theorem mi_setr (A : Nat → Nat → K) {i r : Nat} (u : Nat → K) (h : i ≠ r) : mi i (setr A r u) = setr (mi i A) (if r < i then r else r - 1) (fun j => u (j + 1)) := by
  funext k j
  have hs : skip i k = r ↔ k = (if r < i then r else r - 1) := by unfold skip; split <;> split <;> omega
  show setr A r u (skip i k) (j + 1) = _
  by_cases e : skip i k = r
  · unfold setr; rw [if_pos e, if_pos (hs.1 e)]
  · rw [setr_ne _ _ e, setr_ne _ _ fun e' => e (hs.2 e')]; rfl
theorem dt_lin : ∀ (n : Nat) (A : Nat → Nat → K) (r : Nat), r < n → ∀ (u v : Nat → K) (c : K),
    dt n (setr A r (fun j => ad (u j) (ml c (v j)))) = ad (dt n (setr A r u)) (ml c (dt n (setr A r v)))
  | 0, _, r, h, _, _, _ => absurd h (by omega)
  | n + 1, A, r, h, u, v, c => by
    show sm _ (n + 1) = ad (sm _ (n + 1)) (ml c (sm _ (n + 1)))
    rw [← sm_ml, ← sm_ad]
    refine sm_congr _ fun i hi => ?_
    by_cases e : i = r
    · subst e
      rw [setr_at, setr_at, setr_at, mi_self, mi_self, mi_self, ad_ml, ml_assoc]
    · rw [setr_ne _ _ e, setr_ne _ _ e, setr_ne _ _ e, mi_setr _ _ e, mi_setr _ _ e, mi_setr _ _ e,
        dt_lin n (mi i A) _ (by split <;> omega) (fun j => u (j + 1)) (fun j => v (j + 1)) c, ml_ad, ml_left c]
theorem sm_two {f : Nat → K} {p : Nat} : ∀ n, p + 1 < n → (∀ k, k < n → k ≠ p → k ≠ p + 1 → f k = z) → sm f n = ad (f p) (f (p + 1))
  | 0, h, _ => absurd h (by omega)
  | n + 1, h, hz => by
    show ad (sm f n) (f n) = _
    by_cases e : n = p + 1
    · subst e
      rw [sm_one (i := p) (p + 1) (by omega) fun k hk hne => hz k (by omega) hne (by omega)]
    · rw [sm_two n (by omega) fun k hk => hz k (by omega), hz n (by omega) (by omega) e, ad_z]
theorem dt_adj (h2 : ∀ a : K, ad a a = z) : ∀ (n : Nat) (A : Nat → Nat → K) (p : Nat), p + 1 < n → (∀ j, j < n → A p j = A (p + 1) j) → dt n A = z
  | 0, _, p, h, _ => absurd h (by omega)
  | n + 1, A, p, h, he => by
    show sm _ (n + 1) = z
    rw [sm_two (p := p) (n + 1) h fun i hi h1 h3 => ?_]
    · have hm : dt n (mi p A) = dt n (mi (p + 1) A) := dt_congr n fun k j hk hj => by
        show A (skip p k) (j + 1) = A (skip (p + 1) k) (j + 1)
        by_cases e : k = p
        · subst e
          have a : skip k k = k + 1 := by unfold skip; rw [if_neg (by omega)]
          have b : skip (k + 1) k = k := by unfold skip; rw [if_pos (by omega)]
          rw [a, b]; exact (he _ (by omega)).symm
        · have a : skip p k = skip (p + 1) k := by unfold skip; split <;> split <;> omega
          rw [a]
      rw [hm, he 0 (by omega)]; exact h2 _
    · have : dt n (mi i A) = z := by
        by_cases e : i < p
        · refine dt_adj h2 n (mi i A) (p - 1) (by omega) fun j hj => ?_
          have a : skip i (p - 1) = p := by unfold skip; rw [if_neg (by omega)]; omega
          have b : skip i (p - 1 + 1) = p + 1 := by unfold skip; rw [if_neg (by omega)]; omega
          show A (skip i (p - 1)) (j + 1) = A (skip i (p - 1 + 1)) (j + 1)
          rw [a, b]; exact he _ (by omega)
        · refine dt_adj h2 n (mi i A) p (by omega) fun j hj => ?_
          have a : skip i p = p := by unfold skip; rw [if_pos (by omega)]
          have b : skip i (p + 1) = p + 1 := by unfold skip; rw [if_pos (by omega)]
          show A (skip i p) (j + 1) = A (skip i (p + 1)) (j + 1)
          rw [a, b]; exact he _ (by omega)
      rw [this, ml_z]
theorem dt_id : ∀ n, dt n (idm : Nat → Nat → K) = o
  | 0 => rfl
  | n + 1 => by
    show sm _ (n + 1) = o
    rw [sm_one (i := 0) (n + 1) (by omega) fun k _ hk => by rw [show (idm k 0 : K) = z by unfold idm; rw [if_neg hk], z_ml]]
    have : dt n (mi 0 (idm : Nat → Nat → K)) = dt n idm := dt_congr n fun k j _ _ => by
      show (if skip 0 k = j + 1 then (o : K) else z) = if k = j then o else z
      have a : skip 0 k = k + 1 := by unfold skip; rw [if_neg (by omega)]
      rw [a]
      by_cases e : k = j
      · rw [if_pos (by omega), if_pos e]
      · rw [if_neg (by omega), if_neg e]
    rw [this, dt_id n, show (idm 0 0 : K) = o by unfold idm; rw [if_pos rfl], ml_o]
/-- Linear in each row, and nothing where two rows are alike. -/
structure Alt (n : Nat) (f : (Nat → Nat → K) → K) : Prop where
  congr : ∀ {A B : Nat → Nat → K}, Eqm n n A B → f A = f B
  lin : ∀ (A : Nat → Nat → K) (r : Nat), r < n → ∀ (u v : Nat → K) (c : K), f (setr A r (fun j => ad (u j) (ml c (v j)))) = ad (f (setr A r u)) (ml c (f (setr A r v)))
  alt : ∀ (A : Nat → Nat → K) (p q : Nat), p < q → q < n → (∀ j, j < n → A p j = A q j) → f A = z
/-- From neighbours to any two rows. -/
theorem alt_of (h2 : ∀ a : K, ad a a = z) {n : Nat} {f : (Nat → Nat → K) → K} (hc : ∀ {A B : Nat → Nat → K}, Eqm n n A B → f A = f B)
    (hl : ∀ (A : Nat → Nat → K) (r : Nat), r < n → ∀ (u v : Nat → K) (c : K), f (setr A r (fun j => ad (u j) (ml c (v j)))) = ad (f (setr A r u)) (ml c (f (setr A r v))))
    (ha : ∀ (A : Nat → Nat → K) (p : Nat), p + 1 < n → (∀ j, j < n → A p j = A (p + 1) j) → f A = z) : Alt n f := by
  have hadd : ∀ (A : Nat → Nat → K) (r : Nat), r < n → ∀ (u v : Nat → K), f (setr A r (fun j => ad (u j) (v j))) = ad (f (setr A r u)) (f (setr A r v)) := fun A r hr u v => by
    have := hl A r hr u v o
    simp only [o_ml] at this
    exact this
  have hsw : ∀ (A : Nat → Nat → K) (p : Nat), p + 1 < n → ∀ u v, f (setr (setr A p u) (p + 1) v) = f (setr (setr A p v) (p + 1) u) := fun A p hp u v => by
    have hz : ∀ t, f (setr (setr A p t) (p + 1) t) = z := fun t => ha _ p hp fun j _ => by
      rw [setr_at, setr_ne _ _ (by omega), setr_at]
    have h := hz (fun j => ad (u j) (v j))
    rw [hadd _ (p + 1) hp, setr_comm A _ u (by omega), setr_comm A _ v (by omega), hadd _ p (by omega), hadd _ p (by omega),
      ← setr_comm A (r := p) (s := p + 1) u u (by omega), ← setr_comm A (r := p) (s := p + 1) v u (by omega), ← setr_comm A (r := p) (s := p + 1) u v (by omega), ← setr_comm A (r := p) (s := p + 1) v v (by omega), hz u, hz v, z_ad, ad_z] at h
    -- the two mixed values together are nothing
    have e : ad (f (setr (setr A p u) (p + 1) v)) (f (setr (setr A p v) (p + 1) u)) = z := by rw [ad_comm]; exact h
    exact ad_cancel (a := f (setr (setr A p v) (p + 1) u)) (by rw [ad_comm, e, h2])
  refine ⟨hc, hl, ?_⟩
  intro A p q hpq
  obtain ⟨d, rfl⟩ : ∃ d, q = p + 1 + d := ⟨q - (p + 1), by omega⟩
  induction d generalizing A with
  | zero => exact fun hq he => ha A p hq he
  | succ d ih =>
    intro hq he
    have h := hsw A (p + 1 + d) (by omega) (A (p + 1 + d)) (A (p + 1 + d + 1))
    rw [setr_self, setr_self] at h
    rw [h]
    refine ih _ (by omega) (by omega) fun j hj => ?_
    rw [setr_ne _ _ (by omega), setr_ne _ _ (by omega), setr_ne _ _ (by omega), setr_at]
    exact he j hj
theorem dt_alt (h2 : ∀ a : K, ad a a = z) (n : Nat) : Alt n (dt n : (Nat → Nat → K) → K) := alt_of h2 (dt_congr n) (dt_lin n) (dt_adj h2 n)
end Fld
end Wm

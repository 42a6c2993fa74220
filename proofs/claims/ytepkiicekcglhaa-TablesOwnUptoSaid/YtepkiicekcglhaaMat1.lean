/-
  Plain: more rows than columns depend on each other; so a product through fewer places is not the identity. No program in sight.
-/
import Derived.Test.YtepkiicekcglhaaMat0
set_option linter.unusedVariables false
set_option linter.unusedSimpArgs false
set_option linter.unusedSectionVars false
namespace Wm
namespace Fld
variable {K : Type} [Fld K]
/-- All places but p. -/
def skip (p i : Nat) : Nat := if i < p then i else i + 1
theorem skip_ne (p i : Nat) : skip p i ≠ p := by unfold skip; split <;> omega
theorem skip_lt {p i n : Nat} (h : i < n) : skip p i < n + 1 := by unfold skip; split <;> omega
theorem skip_inj {p i j : Nat} (h : skip p i = skip p j) : i = j := by
  unfold skip at h
  split at h <;> split at h <;> omega
theorem sm_skip (f : Nat → K) (p : Nat) : ∀ n, p ≤ n → sm f (n + 1) = ad (sm (fun i => f (skip p i)) n) (f p)
  | 0, h => by obtain rfl : p = 0 := by omega
               rfl
  | n + 1, h => by
    by_cases e : p = n + 1
    · subst e
      show ad (sm f (n + 1)) (f (n + 1)) = _
      congr 1
      exact sm_congr _ fun k hk => by unfold skip; rw [if_pos (by omega)]
    · have ih := sm_skip f p n (by omega)
      show ad (sm f (n + 1)) (f (n + 1)) = ad (ad (sm (fun i => f (skip p i)) n) (f (skip p n))) (f p)
      rw [ih, show skip p n = n + 1 by unfold skip; rw [if_neg (by omega)], ad_assoc, ad_assoc, ad_comm (f p)]
/-- More vectors than places: they depend on each other. -/
theorem depend : ∀ (s r : Nat), s < r → ∀ A : Nat → Nat → K, ∃ c : Nat → K, (∃ i, i < r ∧ c i ≠ z) ∧ ∀ j, j < s → sm (fun i => ml (c i) (A i j)) r = z
  | 0, r, h, A => ⟨fun _ => o, ⟨0, h, o_ne⟩, fun j hj => absurd hj (by omega)⟩
  | s + 1, r, h, A => by
    by_cases hz : ∀ i, i < r → A i s = z
    · obtain ⟨c, hc, hs⟩ := depend s r (by omega) A
      refine ⟨c, hc, fun j hj => ?_⟩
      by_cases e : j = s
      · subst e
        exact sm_z r fun i hi => by rw [hz i hi, ml_z]
      · exact hs j (by omega)
    · obtain ⟨p, hp⟩ := Classical.not_forall.1 hz
      obtain ⟨hpr, hp0⟩ := Classical.not_imp.1 hp
      obtain ⟨n, rfl⟩ : ∃ n, r = n + 1 := ⟨r - 1, by omega⟩
      obtain ⟨c, ⟨i0, hi0, hc0⟩, hs⟩ := depend s n (by omega) (fun i j => sb (A (skip p i) j) (ml (ml (A (skip p i) s) (iv (A p s))) (A p j)))
      obtain ⟨t, ht⟩ : ∃ t, t = ng (sm (fun i => ml (c i) (ml (A (skip p i) s) (iv (A p s)))) n) := ⟨_, rfl⟩
      -- the coefficient at the i-th place
      let back : Nat → Nat := fun i => if i < p then i else i - 1
      have hback : ∀ i, back (skip p i) = i := fun i => by
        show (if skip p i < p then skip p i else skip p i - 1) = i
        unfold skip
        by_cases hi : i < p
        · simp only [if_pos hi]
        · rw [if_neg hi, if_neg (by omega)]; omega
      refine ⟨fun i => if i = p then t else c (back i), ⟨skip p i0, skip_lt hi0, ?_⟩, fun j hj => ?_⟩
      · show (if skip p i0 = p then t else c (back (skip p i0))) ≠ z
        rw [if_neg (skip_ne _ _), hback]; exact hc0
      · rw [sm_skip _ p n (by omega)]
        have h1 : sm (fun i => ml (if skip p i = p then t else c (back (skip p i))) (A (skip p i) j)) n = sm (fun i => ml (c i) (A (skip p i) j)) n :=
          sm_congr n fun i _ => by rw [if_neg (skip_ne _ _), hback]
        show ad (sm (fun i => ml (if skip p i = p then t else c (back (skip p i))) (A (skip p i) j)) n) (ml (if p = p then t else c (back p)) (A p j)) = z
        rw [h1, if_pos rfl]
        have key : ∀ j, j < s ∨ j = s → sm (fun i => ml (c i) (A (skip p i) j)) n = ml (sm (fun i => ml (c i) (ml (A (skip p i) s) (iv (A p s)))) n) (A p j) := fun j hj => by
          rw [← sm_ml_right]
          rcases hj with hj | rfl
          · have h2 := hs j hj
            have h3 : sm (fun i => ml (c i) (sb (A (skip p i) j) (ml (ml (A (skip p i) s) (iv (A p s))) (A p j)))) n = sb (sm (fun i => ml (c i) (A (skip p i) j)) n) (sm (fun i => ml (ml (c i) (ml (A (skip p i) s) (iv (A p s)))) (A p j)) n) := by
              have h4 : sm (fun i => ml (c i) (sb (A (skip p i) j) (ml (ml (A (skip p i) s) (iv (A p s))) (A p j)))) n = sm (fun i => ad (ml (c i) (A (skip p i) j)) (ml (ng o) (ml (ml (c i) (ml (A (skip p i) s) (iv (A p s)))) (A p j)))) n :=
                sm_congr n fun i _ => by
                  rw [ml_sb, ng_ml, o_ml, ml_assoc (c i)]
                  rfl
              rw [h4, sm_ad, sm_ml, ng_ml, o_ml]
              rfl
            rw [h3] at h2
            exact sb_eq h2
          · exact sm_congr n fun i _ => by rw [ml_assoc (c i), ml_assoc (A (skip p i) j), ml_comm (iv _), ml_iv _ hp0, ml_o]
        rw [key j (by omega), ht, ng_ml, ad_ng]
/-- No identity through fewer places. -/
theorem no_thin {r s : Nat} {A B : Nat → Nat → K} (h : Eqm r r (mm s A B) idm) : r ≤ s := by
  rcases Nat.lt_or_ge s r with hlt | hge
  · obtain ⟨c, ⟨i0, hi0, hc0⟩, hs⟩ := depend s r hlt A
    exfalso
    apply hc0
    -- c times A is nothing, so c times the identity is nothing
    have h1 : sm (fun i => ml (c i) (mm s A B i i0)) r = c i0 := by
      have : sm (fun i => ml (c i) (mm s A B i i0)) r = sm (fun i => ml (c i) (if i = i0 then o else z)) r := sm_congr r fun i hi => by rw [h i i0 hi hi0]; rfl
      rw [this, sm_one (i := i0) r hi0 fun k _ hk => by rw [if_neg hk, ml_z], if_pos rfl, ml_o]
    rw [← h1]
    have h2 : sm (fun i => ml (c i) (mm s A B i i0)) r = sm (fun i => sm (fun k => ml (ml (c i) (A i k)) (B k i0)) s) r := sm_congr r fun i _ => by
      show ml (c i) (sm (fun k => ml (A i k) (B k i0)) s) = _
      rw [← sm_ml]
      exact sm_congr s fun k _ => (ml_assoc _ _ _).symm
    rw [h2, sm_swap]
    exact sm_z s fun k hk => by
      rw [sm_ml_right, hs k hk, z_ml]
  · exact hge
end Fld
end Wm

/-
  Plain: through points there is a polynomial; with one point less each value at nothing comes of one further value (Shamir). No program in sight.
-/
import Derived.Test.YtojjcdbphmcmeaaPts0
set_option linter.unusedVariables false
set_option linter.unusedSimpArgs false
namespace Wm
open Fld

theorem fat_ex {P : Pr} {px py : Nat → Nat} {i : Nat} (hx : ∀ k, px k < P.p) (hy : py i < P.p) : ∀ k, ∃ f, FAt P px py i k f
  | 0 => ⟨_, FAt.start hy⟩
  | k + 1 => by
    obtain ⟨f, hf⟩ := fat_ex (px := px) (py := py) hx hy k
    by_cases e : k = i
    · subst e; exact ⟨f, hf.skip⟩
    · exact ⟨_, hf.step e (hx k)⟩
theorem dat_ex {P : Pr} {px : Nat → Nat} {i : Nat} (hx : ∀ k, px k < P.p) : ∀ k, ∃ d, DAt P px i k d
  | 0 => ⟨_, DAt.start P px i⟩
  | k + 1 => by
    obtain ⟨d, hd⟩ := dat_ex (px := px) (i := i) hx k
    by_cases e : k = i
    · subst e; exact ⟨d, hd.skip⟩
    · exact ⟨_, hd.step e (hx k) rfl⟩
theorem oat_ex {P : Pr} {px py : Nat → Nat} {n : Nat} (hx : ∀ k, px k < P.p) (hy : ∀ k, py k < P.p) : ∀ i, i ≤ n → ∃ of, OAt P px py n i of
  | 0, _ => ⟨_, OAt.start P px py n⟩
  | i + 1, h => by
    obtain ⟨of, ho⟩ := oat_ex (n := n) (px := px) (py := py) hx hy i (by omega)
    obtain ⟨f, hf⟩ := fat_ex (px := px) (py := py) (i := i) hx (hy i) n
    obtain ⟨d, hd⟩ := dat_ex (px := px) (i := i) hx n
    exact ⟨_, OAt.step (c := (iv (zp P d)).1) ho hf (show i < n by omega) hd (zp_self _)⟩
theorem thru_ex {P : Pr} {px py : Nat → Nat} {n : Nat} (hx : ∀ k, px k < P.p) (hy : ∀ k, py k < P.p) (hd : ∀ i j, i < n → j < n → px i = px j → i = j) : ∃ F, Thru P px py n F := by
  obtain ⟨of, ho⟩ := oat_ex (n := n) hx hy n (Nat.le_refl _)
  exact ⟨_, ho.done (fun i _ => hx i) (fun i _ => hy i) hd⟩
/-- Two polynomials through the same n points and one value more at x, of one value at nothing: the values at x are one. -/
theorem blind {P : Pr} {px : Nat → Nat} {py py' : Nat → Nat} {n : Nat} {F G : List Nat} (hF : Thru P px py (n + 1) F) (hG : Thru P px py' (n + 1) G) (hpy : ∀ i, i < n → py i = py' i)
    (hx : ∀ i, i < n → px i < P.p) (hx0 : ∀ i, i < n → px i ≠ 0) (hd : ∀ i j, i < n → j < n → px i = px j → i = j) (h0 : evN P.p F 0 = evN P.p G 0) : py n = py' n := by
  have e : F = G := by
    refine thru_unique (n := n + 1) (px := fun i => if i < n then px i else 0) (py := fun i => if i < n then py i else evN P.p F 0) ⟨hF.isP, hF.len, fun i hi => ?_⟩ ⟨hG.isP, hG.len, fun i hi => ?_⟩ (fun i hi => ?_) fun i j hi hj e => ?_
    · by_cases h : i < n
      · rw [if_pos h, if_pos h]; exact hF.ev i hi
      · rw [if_neg h, if_neg h]
    · by_cases h : i < n
      · rw [if_pos h, if_pos h, hpy i h]; exact hG.ev i hi
      · rw [if_neg h, if_neg h]; exact h0.symm
    · by_cases h : i < n
      · rw [if_pos h]; exact hx i h
      · rw [if_neg h]; exact P.pos
    · by_cases h : i < n
      · rw [if_pos h] at e
        by_cases h' : j < n
        · rw [if_pos h'] at e; exact hd i j h h' e
        · rw [if_neg h'] at e; exact absurd e (hx0 i h)
      · rw [if_neg h] at e
        by_cases h' : j < n
        · rw [if_pos h'] at e; exact absurd e.symm (hx0 j h')
        · omega
  rw [← hF.ev n (by omega), ← hG.ev n (by omega), e]
end Wm

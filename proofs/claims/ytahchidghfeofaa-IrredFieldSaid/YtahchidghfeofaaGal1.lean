/-
  Polynomials over a field of p numbers: division and greatest common divisors are there. No program in sight.
-/
import Derived.Test.YtahchidghfeofaaZp3
set_option linter.unusedVariables false
set_option linter.unusedSimpArgs false
namespace Wm
open Fld
theorem lead_inv (P : Pr) {g : List Nat} (hg : IsP P.p g) (hne : g ≠ []) : ∃ iv, iv * g.getD (g.length - 1) 0 % P.p = 1 := by
  have h1 := hg.lt P.pos (g.length - 1)
  have h2 := hg.2 hne
  refine ⟨(g.getD (g.length - 1) 0) ^ (P.p - 2), ?_⟩
  rw [Nat.mul_comm]
  have := inv_ex P (a := g.getD (g.length - 1) 0) (fun h => by
    have := Nat.le_of_dvd (Nat.pos_of_ne_zero h2) h
    omega)
  rw [this]
  exact Nat.mod_eq_of_lt P.two
theorem div_at (P : Pr) {f g : List Nat} (hf : IsP P.p f) (hg : IsP P.p g) (hne : g ≠ []) {m : Nat} (hm : m = f.length + 1 - g.length) : ∀ d, d ≤ m → ∃ qf rf, DivAt P f g m (m - d) qf rf
  | 0, _ => ⟨_, _, DivAt.start P hf (List.length_pos_iff.2 hne) hm⟩
  | d + 1, h => by
    obtain ⟨qf, rf, D⟩ := div_at P hf hg hne hm d (by omega)
    obtain ⟨iv, hiv⟩ := lead_inv P hg hne
    rw [show m - d = (m - (d + 1)) + 1 by omega] at D
    exact ⟨_, _, D.step hg (List.length_pos_iff.2 hne) hm (by omega) hiv rfl⟩
theorem div_ex (P : Pr) {f g : List Nat} (hf : IsP P.p f) (hg : IsP P.p g) (hne : g ≠ []) : ∃ q r, IsDiv P f g q r := by
  obtain ⟨qf, rf, D⟩ := div_at P hf hg hne rfl _ (Nat.le_refl _)
  rw [Nat.sub_self] at D
  exact ⟨_, _, D.done (List.length_pos_iff.2 hne)⟩
def sclL (p c : Nat) (f : List Nat) : List Nat := mkL f.length fun k => c * f.getD k 0 % p
theorem sclL_ser (P : Pr) (c : Nat) (f : List Nat) : ser P (sclL P.p c f) = ssc (zp P c) (ser P f) := by
  unfold sclL
  rw [mkL_ser P _ _ fun k hk => by rw [getD_big hk, Nat.mul_zero, Nat.zero_mod]]
  funext k
  show zp P (c * f.getD k 0 % P.p) = ml (zp P c) (zp P (f.getD k 0))
  rw [zp_mod, zp_mul]
theorem sclL_length (p c : Nat) (f : List Nat) : (sclL p c f).length = f.length := mkL_length ..
/-- The monic one of the same divisors. -/
theorem monic_ex (P : Pr) {f : List Nat} (hf : IsP P.p f) (hne : f ≠ []) : ∃ d, IsP P.p d ∧ d.length = f.length ∧ d.getD (d.length - 1) 0 = 1 ∧ (∃ c, ser P d = ssc c (ser P f)) ∧ ∃ c, ser P f = ssc c (ser P d) := by
  obtain ⟨iv, hiv⟩ := lead_inv P hf hne
  have hl := List.length_pos_iff.2 hne
  have hlast : (sclL P.p iv f).getD (f.length - 1) 0 = 1 := by
    unfold sclL
    rw [mkL_get _ (by omega)]
    exact hiv
  refine ⟨sclL P.p iv f, ⟨mkL_lt fun k _ => Nat.mod_lt _ P.pos, fun _ => by rw [sclL_length, hlast]; omega⟩, sclL_length .., by rw [sclL_length]; exact hlast, ⟨_, sclL_ser P iv f⟩, ⟨zp P (f.getD (f.length - 1) 0), ?_⟩⟩
  rw [sclL_ser]
  funext k
  show ser P f k = ml (zp P (f.getD (f.length - 1) 0)) (ml (zp P iv) (ser P f k))
  unfold ser
  rw [← zp_mul, ← zp_mul, zp_eq, ← Nat.mul_assoc, Nat.mul_comm (f.getD (f.length - 1) 0) iv, Nat.mul_mod, hiv, Nat.one_mul, Nat.mod_mod]
theorem gcd_ex (P : Pr) : ∀ n (f g : List Nat), g.length ≤ n → IsP P.p f → IsP P.p g → ∃ d, IsGcd P f g d := by
  intro n
  induction n with
  | zero =>
    intro f g hn hf hg
    obtain rfl : g = [] := List.length_eq_zero_iff.1 (by omega)
    by_cases hne : f = []
    · subst hne
      exact ⟨[], ⟨isP_nil _, Dv.refl _, Dv.refl _, fun c h _ => h, fun h => absurd rfl h, fun _ => ⟨rfl, rfl⟩⟩⟩
    · obtain ⟨d, hd, hl, h1, ⟨c1, e1⟩, ⟨c2, e2⟩⟩ := monic_ex P hf hne
      refine ⟨d, ⟨hd, ?_, dv_s0 _, fun c h _ => ?_, fun _ => h1, fun h => ?_⟩⟩
      · rw [e2]; exact Dv.sc _ (Dv.refl _)
      · rw [e1]; exact Dv.sc _ h
      · subst h; exact absurd (List.length_eq_zero_iff.1 hl.symm) hne
  | succ n ih =>
    intro f g hn hf hg
    by_cases hne : g = []
    · subst hne; exact ih f [] (by simp) hf hg
    · obtain ⟨q, r, D⟩ := div_ex P hf hg hne
      obtain ⟨d, G⟩ := ih g r (by have := D.lt; omega) hg D.rP
      have k := fun c => dv_iff_of_gcd D (c := c)
      have hk := (k _).2 ⟨G.left, G.right⟩
      exact ⟨d, ⟨G.isP, hk.1, hk.2, fun c h1 h2 => G.all c ((k c).1 ⟨h1, h2⟩).1 ((k c).1 ⟨h1, h2⟩).2, G.monic, fun h => absurd (G.nil h).1 hne⟩⟩
end Wm

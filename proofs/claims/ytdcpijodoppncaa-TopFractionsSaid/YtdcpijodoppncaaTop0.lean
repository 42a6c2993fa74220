/-
  Plain facts for the law TopFractions: the length of a continued fraction, the nearest fractions of a fraction that is within reach.
-/
import Derived.Test.YtdcpijodoppncaaFrac0
import Derived.Test.YtdcpijodoppncaaEuclid0
import Derived.Test.YtdcpijodoppncaaSides0
set_option linter.unusedVariables false
set_option linter.unusedSimpArgs false
namespace Wm

theorem cf_steps : ∀ q p : Nat, (cf p q).length = nsteps p q := by
  intro q
  induction q using Nat.strongRecOn with
  | ind q ih =>
    intro p
    rcases Nat.eq_zero_or_pos q with rfl | h
    · rw [cf_zero, nsteps_zero]; rfl
    · rw [cf_pos h, nsteps_pos p q h, List.length_cons, ih (p % q) (Nat.mod_lt _ h) q]

theorem low_one {p Q m s t s' t' : Nat} (h : Low p Q m s t) (h' : Low p Q m s' t') : s' = s ∧ t' = t := by
  have a := h.2.2.2.2 s' t' h'.1 h'.2.1 h'.2.2.2.1
  have b := h'.2.2.2.2 s t h.1 h.2.1 h.2.2.2.1
  exact cross_lowest h'.2.2.1 h.2.2.1 h'.1 h.1 (by omega)
theorem high_one {p Q m s t s' t' : Nat} (h : High p Q m s t) (h' : High p Q m s' t') : s' = s ∧ t' = t := by
  have a := h.2.2.2.2 s' t' h'.1 h'.2.1 h'.2.2.2.1
  have b := h'.2.2.2.2 s t h.1 h.2.1 h.2.2.2.1
  exact cross_lowest h'.2.2.1 h.2.2.1 h'.1 h.1 (by omega)

theorem top_near {p q m g a b s t u v : Nat} (hq : 1 ≤ q) (hg : g = Nat.gcd p q) (ha : a = p / g) (hb : b = q / g) (hl : Low p q m s t) (hh : High p q m u v) :
    1 ≤ g ∧ 1 ≤ b ∧ Nat.gcd a b = 1 ∧ (b ≤ m → s = a ∧ t = b ∧ u = a ∧ v = b) ∧ (¬ b ≤ m → ¬ (s = u ∧ t = v) ∧ u * t = s * v + 1) := by
  have g0 : 0 < g := by rw [hg]; exact Nat.gcd_pos_of_pos_right _ hq
  have hp' : p = g * a := by rw [ha, Nat.mul_div_cancel' (by rw [hg]; exact Nat.gcd_dvd_left _ _)]
  have hq' : q = g * b := by rw [hb, Nat.mul_div_cancel' (by rw [hg]; exact Nat.gcd_dvd_right _ _)]
  have hab : Nat.gcd a b = 1 := by rw [ha, hb, hg]; exact Nat.gcd_div_gcd_div_gcd_of_pos_right hq
  have hb0 : 1 ≤ b := by
    rcases Nat.eq_zero_or_pos b with h | h
    · rw [h, Nat.mul_zero] at hq'; omega
    · exact h
  refine ⟨g0, hb0, hab, fun h => ?_, fun h => ?_⟩
  · have L : Low p q m a b := ⟨hb0, h, hab, by rw [hp', hq']; exact Nat.le_of_eq (by ac_rfl), fun y r h1 h2 h3 => by
      rw [hp', hq'] at h3
      exact Nat.le_of_mul_le_mul_left (show g * (y * b) ≤ g * (a * r) by rw [show g * (y * b) = y * (g * b) by ac_rfl, show g * (a * r) = g * a * r by ac_rfl]; exact h3) g0⟩
    have H : High p q m a b := ⟨hb0, h, hab, by rw [hp', hq']; exact Nat.le_of_eq (by ac_rfl), fun y r h1 h2 h3 => by
      rw [hp', hq'] at h3
      exact Nat.le_of_mul_le_mul_left (show g * (a * r) ≤ g * (y * b) by rw [show g * (y * b) = y * (g * b) by ac_rfl, show g * (a * r) = g * a * r by ac_rfl]; exact h3) g0⟩
    have h1 := low_one L hl
    have h2 := high_one H hh
    exact ⟨h1.1, h1.2, h2.1, h2.2⟩
  · have hne : ¬ (s = u ∧ t = v) := by
      rintro ⟨rfl, rfl⟩
      have h1 := hl.2.2.2.1
      have h2 := hh.2.2.2.1
      have h3 : s * q = p * t := by omega
      rw [hp', hq'] at h3
      have h4 : s * b = a * t := Nat.eq_of_mul_eq_mul_left g0 (show g * (s * b) = g * (a * t) by rw [show g * (s * b) = s * (g * b) by ac_rfl, h3]; ac_rfl)
      have h5 := cross_lowest hab hl.2.2.1 hb0 hl.1 h4
      have := hl.2.1
      omega
    exact ⟨hne, sides_det hq hl hh hne⟩

end Wm

/-
  Plain: the nearest fractions on both sides. No program in sight.
-/
import Derived.Test.YtdcpijodoppncaaBase
set_option linter.unusedVariables false
set_option linter.unusedSimpArgs false
namespace Wm

theorem bezout_neg : ∀ t s : Nat, 1 ≤ t → Nat.gcd s t = 1 → ∃ y x, x * t = s * y + 1 := by
  intro t
  induction t using Nat.strongRecOn with
  | ind t ih =>
    intro s ht hg
    rcases Nat.lt_or_ge 1 t with h1 | h1
    · have hr : 0 < s % t := by
        rcases Nat.eq_zero_or_pos (s % t) with h | h
        · have : t ∣ s := Nat.dvd_of_mod_eq_zero h
          have h2 := Nat.dvd_gcd this (Nat.dvd_refl t)
          rw [hg] at h2
          have := Nat.le_of_dvd (by omega) h2
          omega
        · exact h
      obtain ⟨y, x, h⟩ := ih (s % t) (Nat.mod_lt _ (by omega)) t hr (by rw [Nat.gcd_comm, ← Nat.gcd_rec, Nat.gcd_comm]; exact hg)
      obtain ⟨u, rfl⟩ : ∃ u, t = u + 1 := ⟨t - 1, by omega⟩
      refine ⟨u * x, u * (s / (u + 1) * x + y) + 1, ?_⟩
      have hs : s * x = (u + 1) * (s / (u + 1) * x + y) + 1 := by
        have e := Nat.div_add_mod s (u + 1)
        calc s * x = ((u + 1) * (s / (u + 1)) + s % (u + 1)) * x := by rw [e]
          _ = (u + 1) * (s / (u + 1)) * x + x * (s % (u + 1)) := by rw [Nat.add_mul, Nat.mul_comm (s % (u + 1))]
          _ = (u + 1) * (s / (u + 1) * x + y) + 1 := by rw [h, Nat.mul_add, Nat.mul_assoc]; omega
      have e2 : s * (u * x) = u * (s * x) := by ac_rfl
      rw [e2, hs]
      generalize s / (u + 1) * x + y = Z
      simp only [Nat.add_mul, Nat.mul_add, Nat.one_mul, Nat.mul_one]
      have e3 : u * Z * u = u * (u * Z) := by ac_rfl
      omega
    · obtain rfl : t = 1 := by omega
      exact ⟨0, 1, by simp⟩

/-- The nearest from below, and from above. -/
def Low (p Q most s t : Nat) : Prop := 1 ≤ t ∧ t ≤ most ∧ Nat.gcd s t = 1 ∧ s * Q ≤ p * t ∧ ∀ y q, 1 ≤ q → q ≤ most → y * Q ≤ p * q → y * t ≤ s * q
def High (p Q most u v : Nat) : Prop := 1 ≤ v ∧ v ≤ most ∧ Nat.gcd u v = 1 ∧ p * v ≤ u * Q ∧ ∀ y q, 1 ≤ q → q ≤ most → p * q ≤ y * Q → u * q ≤ y * v

theorem cross_lowest {s t u v : Nat} (h1 : Nat.gcd s t = 1) (h2 : Nat.gcd u v = 1) (ht : 1 ≤ t) (hv : 1 ≤ v) (h : u * t = s * v) : s = u ∧ t = v := by
  have d1 : t ∣ v := (Nat.Coprime.dvd_of_dvd_mul_left (show Nat.Coprime t s from by rw [Nat.coprime_comm]; exact h1)) ⟨u, by rw [← h, Nat.mul_comm]⟩
  have d2 : v ∣ t := (Nat.Coprime.dvd_of_dvd_mul_left (show Nat.Coprime v u from by rw [Nat.coprime_comm]; exact h2)) ⟨s, by rw [h, Nat.mul_comm]⟩
  have e := Nat.dvd_antisymm d1 d2
  subst e
  exact ⟨(Nat.eq_of_mul_eq_mul_right (by omega) h).symm, rfl⟩
theorem sides_le {p Q most s t u v : Nat} (hQ : 1 ≤ Q) (hl : Low p Q most s t) (hh : High p Q most u v) : s * v ≤ u * t := by
  obtain ⟨l1, l2, l3, l4, l5⟩ := hl
  obtain ⟨h1, h2, h3, h4, h5⟩ := hh
  have e1 : s * Q * v ≤ p * t * v := Nat.mul_le_mul_right v l4
  have e2 : p * v * t ≤ u * Q * t := Nat.mul_le_mul_right t h4
  have e3 : p * t * v = p * v * t := by ac_rfl
  have e4 : (s * v) * Q ≤ (u * t) * Q := by
    have a1 : (s * v) * Q = s * Q * v := by ac_rfl
    have a2 : (u * t) * Q = u * Q * t := by ac_rfl
    omega
  exact Nat.le_of_mul_le_mul_right e4 (by omega)
/-- The determinant is 1. -/
theorem sides_det {p Q most s t u v : Nat} (hQ : 1 ≤ Q) (hl : Low p Q most s t) (hh : High p Q most u v) (hne : ¬ (s = u ∧ t = v)) : u * t = s * v + 1 := by
  have hle := sides_le hQ hl hh
  obtain ⟨l1, l2, l3, l4, l5⟩ := hl
  obtain ⟨h1, h2, h3, h4, h5⟩ := hh
  obtain ⟨y, x, hxy⟩ := bezout_neg t s l1 l3
  -- t' just below most
  have hy : y % t < t := Nat.mod_lt _ (by omega)
  obtain ⟨t', ht', hm1, hm2⟩ : ∃ t', (∃ s', s' * t = s * t' + 1) ∧ most < t' + t ∧ t' ≤ most := by
    refine ⟨y % t + t * ((most - y % t) / t), ⟨x + s * ((most - y % t) / t) - s * (y / t), ?_⟩, ?_, ?_⟩
    · have e := Nat.div_add_mod y t
      have hge : s * (y / t) ≤ x := by
        have : s * (y / t) * t ≤ x * t := by
          rw [hxy]
          have : s * (y / t) * t = s * (t * (y / t)) := by ac_rfl
          rw [this]
          have := Nat.mul_le_mul_left s (Nat.mul_div_le y t)
          omega
        exact Nat.le_of_mul_le_mul_right this (by omega)
      rw [Nat.sub_mul, Nat.add_mul, hxy, Nat.mul_add]
      have e1 : s * y = s * (t * (y / t)) + s * (y % t) := by rw [← Nat.mul_add, e]
      have e2 : s * (y / t) * t = s * (t * (y / t)) := by ac_rfl
      have e3 : s * ((most - y % t) / t) * t = s * (t * ((most - y % t) / t)) := by ac_rfl
      omega
    · have := Nat.div_add_mod (most - y % t) t
      have := Nat.mod_lt (most - y % t) (show t > 0 by omega)
      omega
    · have := Nat.div_add_mod (most - y % t) t
      omega
  obtain ⟨s', hs'⟩ := ht'
  have ht1 : 1 ≤ t' := by omega
  have hup : p * t' ≤ s' * Q := by
    rcases Nat.lt_or_ge (p * t') (s' * Q) with h | h
    · omega
    · have := l5 s' t' ht1 hm2 h
      omega
  have hX := h5 s' t' ht1 hm2 hup
  obtain ⟨X, hX⟩ := Nat.exists_eq_add_of_le hX
  obtain ⟨D, hD⟩ := Nat.exists_eq_add_of_le hle
  have key : v = t * X + t' * D := by
    have e1 : s' * t * v = s * t' * v + v := by rw [hs', Nat.add_mul, Nat.one_mul]
    have e2 : s' * v * t = u * t' * t + X * t := by rw [hX, Nat.add_mul]
    have e3 : u * t * t' = s * v * t' + D * t' := by rw [hD, Nat.add_mul]
    have a1 : s' * t * v = s' * v * t := by ac_rfl
    have a2 : u * t' * t = u * t * t' := by ac_rfl
    have a3 : s * v * t' = s * t' * v := by ac_rfl
    have a4 : X * t = t * X := Nat.mul_comm _ _
    have a5 : D * t' = t' * D := Nat.mul_comm _ _
    omega
  have hD1 : 1 ≤ D := by
    rcases Nat.eq_zero_or_pos D with h | h
    · subst h
      exact absurd (cross_lowest l3 h3 l1 h1 (by omega)) hne
    · exact h
  have hX0 : X = 0 := by
    rcases Nat.eq_zero_or_pos X with h | h
    · exact h
    · have a1 := Nat.mul_le_mul_left t h
      have a2 := Nat.mul_le_mul_left t' hD1
      omega
  subst hX0
  have hv : v = t' * D := by omega
  have hu : u = s' * D := by
    have : u * t' = (s' * D) * t' := by
      have a : s' * v = s' * D * t' := by rw [hv]; ac_rfl
      omega
    exact Nat.eq_of_mul_eq_mul_right (by omega) this
  have hd : D ∣ 1 := by
    rw [← h3]
    exact Nat.dvd_gcd ⟨s', by rw [hu, Nat.mul_comm]⟩ ⟨t', by rw [hv, Nat.mul_comm]⟩
  have := Nat.le_of_dvd (by omega) hd
  have : D = 1 := by omega
  subst this
  exact hD

/-! ## What the search keeps -/
def LowAt (p Q k a q : Nat) : Prop := 1 ≤ q ∧ q ≤ k ∧ a = p * q / Q ∧ ∀ r, 1 ≤ r → r ≤ k → (p * r / Q) * q ≤ a * r
def HighAt (p Q k b q : Nat) : Prop := 1 ≤ q ∧ q ≤ k ∧ b = (p * q + Q - 1) / Q ∧ ∀ r, 1 ≤ r → r ≤ k → b * r ≤ ((p * r + Q - 1) / Q) * q

theorem LowAt.bound {p Q k a q : Nat} (h : LowAt p Q k a q) (hp : p ≤ 1000000) (hQ : 1 ≤ Q) (hk : k ≤ 1000000) : a ≤ 1000000000000 ∧ q ≤ 1000000 := by
  obtain ⟨h1, h2, h3, -⟩ := h
  have : p * q ≤ 1000000 * 1000000 := Nat.mul_le_mul hp (by omega)
  have h4 : p * q / Q ≤ p * q := Nat.div_le_self _ _
  omega
theorem HighAt.bound {p Q k a q : Nat} (h : HighAt p Q k a q) (hp : p ≤ 1000000) (hQ : 1 ≤ Q) (hQ6 : Q ≤ 1000000) (hk : k ≤ 1000000) : a ≤ 1000001000000 ∧ q ≤ 1000000 := by
  obtain ⟨h1, h2, h3, -⟩ := h
  have : p * q ≤ 1000000 * 1000000 := Nat.mul_le_mul hp (by omega)
  have h4 : (p * q + Q - 1) / Q ≤ p * q + Q - 1 := Nat.div_le_self _ _
  omega
theorem LowAt.start (p Q : Nat) : LowAt p Q 1 (p / Q) 1 := ⟨by omega, by omega, by rw [Nat.mul_one], fun r h1 h2 => by
  obtain rfl : r = 1 := by omega
  simp⟩
theorem HighAt.start (p Q : Nat) : HighAt p Q 1 ((p + Q - 1) / Q) 1 := ⟨by omega, by omega, by rw [Nat.mul_one], fun r h1 h2 => by
  obtain rfl : r = 1 := by omega
  simp⟩
theorem LowAt.keep {p Q k a q : Nat} (h : LowAt p Q k a q) (hn : ¬ a * (k + 1) < (p * (k + 1) / Q) * q) : LowAt p Q (k + 1) a q := by
  obtain ⟨h1, h2, h3, h4⟩ := h
  refine ⟨h1, by omega, h3, fun r g1 g2 => ?_⟩
  by_cases hr : r ≤ k
  · exact h4 r g1 hr
  · obtain rfl : r = k + 1 := by omega
    omega
theorem LowAt.next {p Q k a q : Nat} (h : LowAt p Q k a q) (hn : a * (k + 1) < (p * (k + 1) / Q) * q) : LowAt p Q (k + 1) (p * (k + 1) / Q) (k + 1) := by
  obtain ⟨h1, h2, h3, h4⟩ := h
  refine ⟨by omega, by omega, rfl, fun r g1 g2 => ?_⟩
  by_cases hr : r ≤ k
  · have e := h4 r g1 hr
    generalize p * (k + 1) / Q = b at *
    generalize p * r / Q = c at *
    have e1 : c * q * (k + 1) ≤ a * r * (k + 1) := Nat.mul_le_mul_right _ e
    have e2 : a * (k + 1) * r ≤ b * q * r := Nat.mul_le_mul_right _ (by omega)
    have e3 : (c * (k + 1)) * q ≤ (b * r) * q := by
      have a1 : (c * (k + 1)) * q = c * q * (k + 1) := by ac_rfl
      have a2 : (b * r) * q = b * q * r := by ac_rfl
      have a3 : a * r * (k + 1) = a * (k + 1) * r := by ac_rfl
      omega
    exact Nat.le_of_mul_le_mul_right e3 (by omega)
  · obtain rfl : r = k + 1 := by omega
    exact Nat.le_refl _
theorem HighAt.keep {p Q k b q : Nat} (h : HighAt p Q k b q) (hn : ¬ ((p * (k + 1) + Q - 1) / Q) * q < b * (k + 1)) : HighAt p Q (k + 1) b q := by
  obtain ⟨h1, h2, h3, h4⟩ := h
  refine ⟨h1, by omega, h3, fun r g1 g2 => ?_⟩
  by_cases hr : r ≤ k
  · exact h4 r g1 hr
  · obtain rfl : r = k + 1 := by omega
    omega
theorem HighAt.next {p Q k b q : Nat} (h : HighAt p Q k b q) (hn : ((p * (k + 1) + Q - 1) / Q) * q < b * (k + 1)) : HighAt p Q (k + 1) ((p * (k + 1) + Q - 1) / Q) (k + 1) := by
  obtain ⟨h1, h2, h3, h4⟩ := h
  refine ⟨by omega, by omega, rfl, fun r g1 g2 => ?_⟩
  by_cases hr : r ≤ k
  · have e := h4 r g1 hr
    generalize (p * (k + 1) + Q - 1) / Q = a at *
    generalize (p * r + Q - 1) / Q = c at *
    have e1 : b * r * (k + 1) ≤ c * q * (k + 1) := Nat.mul_le_mul_right _ e
    have e2 : a * q * r ≤ b * (k + 1) * r := Nat.mul_le_mul_right _ (by omega)
    have e3 : (a * r) * q ≤ (c * (k + 1)) * q := by
      have a1 : (a * r) * q = a * q * r := by ac_rfl
      have a2 : (c * (k + 1)) * q = c * q * (k + 1) := by ac_rfl
      have a3 : b * (k + 1) * r = b * r * (k + 1) := by ac_rfl
      omega
    exact Nat.le_of_mul_le_mul_right e3 (by omega)
  · obtain rfl : r = k + 1 := by omega
    exact Nat.le_refl _

theorem ceil_le {n Q y : Nat} (hQ : 1 ≤ Q) : (n + Q - 1) / Q ≤ y ↔ n ≤ y * Q := by
  constructor
  · intro h
    have h1 : n + Q - 1 < ((n + Q - 1) / Q + 1) * Q := by
      have := Nat.div_add_mod (n + Q - 1) Q
      have := Nat.mod_lt (n + Q - 1) (show Q > 0 by omega)
      rw [Nat.add_mul, Nat.mul_comm ((n + Q - 1) / Q)]
      omega
    have h2 := Nat.mul_le_mul_right Q (Nat.add_le_add_right h 1)
    rw [Nat.add_mul y 1 Q] at h2
    omega
  · intro h
    have : (n + Q - 1) / Q < y + 1 := Nat.div_lt_of_lt_mul (by rw [Nat.mul_comm, Nat.add_mul]; omega)
    omega
/-- In lowest terms. -/
theorem LowAt.low {p Q most a q g s t : Nat} (hQ : 1 ≤ Q) (h : LowAt p Q most a q) (hg : g = Nat.gcd a q) (hs : a = g * s) (ht : q = g * t) : Low p Q most s t := by
  obtain ⟨h1, h2, h3, h4⟩ := h
  have g0 : 0 < g := by rw [hg]; exact Nat.gcd_pos_of_pos_right _ (by omega)
  have t1 : 1 ≤ t := Nat.pos_of_ne_zero fun e => by subst e; omega
  have tq : t ≤ q := by rw [ht]; exact Nat.le_mul_of_pos_left t g0
  refine ⟨t1, by omega, ?_, ?_, fun y r r1 r2 hy => ?_⟩
  · have e := hg
    rw [hs, ht, Nat.gcd_mul_left] at e
    exact Nat.eq_of_mul_eq_mul_left g0 (by omega)
  · have e : a * Q ≤ p * q := by rw [h3]; exact Nat.div_mul_le_self _ _
    rw [hs, ht] at e
    have a1 : g * s * Q = g * (s * Q) := by ac_rfl
    have a2 : p * (g * t) = g * (p * t) := by ac_rfl
    exact Nat.le_of_mul_le_mul_left (by omega) g0
  · have e1 : y ≤ p * r / Q := (Nat.le_div_iff_mul_le (by omega)).2 hy
    have e2 := h4 r r1 r2
    have e3 : y * q ≤ (p * r / Q) * q := Nat.mul_le_mul_right q e1
    have e4 : y * q ≤ a * r := Nat.le_trans e3 e2
    rw [hs, ht] at e4
    have a1 : y * (g * t) = g * (y * t) := by ac_rfl
    have a2 : g * s * r = g * (s * r) := by ac_rfl
    exact Nat.le_of_mul_le_mul_left (by omega) g0
theorem HighAt.high {p Q most b q g s t : Nat} (hQ : 1 ≤ Q) (h : HighAt p Q most b q) (hg : g = Nat.gcd b q) (hs : b = g * s) (ht : q = g * t) : High p Q most s t := by
  obtain ⟨h1, h2, h3, h4⟩ := h
  have g0 : 0 < g := by rw [hg]; exact Nat.gcd_pos_of_pos_right _ (by omega)
  have t1 : 1 ≤ t := Nat.pos_of_ne_zero fun e => by subst e; omega
  have tq : t ≤ q := by rw [ht]; exact Nat.le_mul_of_pos_left t g0
  refine ⟨t1, by omega, ?_, ?_, fun y r r1 r2 hy => ?_⟩
  · have e := hg
    rw [hs, ht, Nat.gcd_mul_left] at e
    exact Nat.eq_of_mul_eq_mul_left g0 (by omega)
  · have e : p * q ≤ b * Q := (ceil_le hQ).1 (by omega)
    rw [hs, ht] at e
    have a1 : g * s * Q = g * (s * Q) := by ac_rfl
    have a2 : p * (g * t) = g * (p * t) := by ac_rfl
    exact Nat.le_of_mul_le_mul_left (by omega) g0
  · have e1 : (p * r + Q - 1) / Q ≤ y := (ceil_le hQ).2 hy
    have e2 := h4 r r1 r2
    have e3 : ((p * r + Q - 1) / Q) * q ≤ y * q := Nat.mul_le_mul_right q e1
    have e4 : b * r ≤ y * q := Nat.le_trans e2 e3
    rw [hs, ht] at e4
    have a1 : y * (g * t) = g * (y * t) := by ac_rfl
    have a2 : g * s * r = g * (s * r) := by ac_rfl
    exact Nat.le_of_mul_le_mul_left (by omega) g0

end Wm

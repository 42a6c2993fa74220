/-
  Plain facts on remainders: powers by squaring, the extended Euclidean algorithm, inverses. No program in sight.
-/
set_option linter.unusedVariables false
set_option linter.unusedSimpArgs false
namespace Wm

theorem emod_congr {a b m : Int} : a % m = b % m ↔ m ∣ a - b := Int.emod_eq_emod_iff_emod_sub_eq_zero.trans ⟨Int.dvd_of_emod_eq_zero, Int.emod_eq_zero_of_dvd⟩

theorem mul_emod_left' (a b m : Int) : (a % m * b) % m = a * b % m := by rw [Int.mul_emod, Int.emod_emod_of_dvd _ (Int.dvd_refl m), ← Int.mul_emod]
theorem mul_emod_right' (a b m : Int) : (a * (b % m)) % m = a * b % m := by rw [Int.mul_emod, Int.emod_emod_of_dvd _ (Int.dvd_refl m), ← Int.mul_emod]

theorem pow_emod (a m : Int) (n : Nat) : (a % m) ^ n % m = a ^ n % m := by
  induction n with
  | zero => simp
  | succ n ih => rw [Int.pow_succ, Int.pow_succ, Int.mul_emod, ih, Int.emod_emod_of_dvd _ (Int.dvd_refl m), ← Int.mul_emod]

/-- One turn of the powers by squaring, an odd exponent. -/
theorem pow_odd (out a m : Int) (n : Nat) (h : n % 2 = 1) : (out * a % m) * (a * a % m) ^ (n / 2) % m = out * a ^ n % m := by
  have e : n = 2 * (n / 2) + 1 := by omega
  conv => rhs; rw [e, Int.pow_succ, Int.pow_mul]
  rw [mul_emod_left', Int.mul_emod, pow_emod, ← Int.mul_emod]
  congr 1
  rw [show a ^ 2 = a * a from by rw [Int.pow_succ, Int.pow_succ, Int.pow_zero, Int.one_mul]]
  simp only [Int.mul_assoc, Int.mul_comm]
theorem pow_even (out a m : Int) (n : Nat) (h : n % 2 = 0) : out * (a * a % m) ^ (n / 2) % m = out * a ^ n % m := by
  have e : n = 2 * (n / 2) := by omega
  conv => rhs; rw [e, Int.pow_mul]
  rw [Int.mul_emod, pow_emod, ← Int.mul_emod]
  congr 2
  rw [show a ^ 2 = a * a from by rw [Int.pow_succ, Int.pow_succ, Int.pow_zero, Int.one_mul]]

theorem sq_nonneg (y : Int) : 0 ≤ y * y := by
  rcases Int.le_total 0 y with h | h
  · exact Int.mul_nonneg h h
  · exact Int.mul_nonneg_of_nonpos_of_nonpos h h

theorem natAbs_sub_mul {x y q : Int} (hs : x * y ≤ 0) (hq : 0 ≤ q) : (x - q * y).natAbs = x.natAbs + q.natAbs * y.natAbs := by
  rw [← Int.natAbs_mul]
  rcases Int.lt_trichotomy y 0 with h | h | h
  · have hx : 0 ≤ x := by
      rcases Int.lt_or_le x 0 with h' | h'
      · have := Int.mul_pos_of_neg_of_neg h' h; omega
      · exact h'
    have : q * y ≤ 0 := Int.mul_nonpos_of_nonneg_of_nonpos hq (by omega)
    omega
  · subst h; simp
  · have hx : x ≤ 0 := by
      rcases Int.lt_or_le 0 x with h' | h'
      · have := Int.mul_pos h' h; omega
      · exact h'
    have : 0 ≤ q * y := Int.mul_nonneg hq (by omega)
    omega

/-- What holds at each turn of the extended algorithm. -/
structure ExtInv (m a0 a b x y : Int) : Prop where
  ha : 0 ≤ a ∧ a ≤ m
  hb : 0 ≤ b ∧ b ≤ m
  hx : -m ≤ x ∧ x ≤ m
  hy : -m ≤ y ∧ y ≤ m
  d1 : m ∣ x * a0 - a
  d2 : m ∣ y * a0 - b
  s : x * y ≤ 0
  n : (x.natAbs : Int) * b + (y.natAbs : Int) * a = m
  g : Int.gcd a b = Int.gcd a0 m

theorem ExtInv.start {m a0 : Int} (hm : 1 ≤ m) (h : 0 ≤ a0 ∧ a0 < m) : ExtInv m a0 a0 m 1 0 :=
  ⟨by omega, by omega, by omega, by omega, by simp, by simp [Int.dvd_neg], by simp, by simp, rfl⟩

theorem ExtInv.step {m a0 a b x y : Int} (h : ExtInv m a0 a b x y) (hb : 0 < b) :
    ExtInv m a0 b (a - a / b * b) y (x - a / b * y) ∧ (-(2 * m) ≤ a / b * y ∧ a / b * y ≤ 2 * m) ∧ (0 ≤ a / b * b ∧ a / b * b ≤ a) ∧ a - a / b * b < b ∧ (0 ≤ a / b ∧ a / b ≤ a) := by
  have hq : 0 ≤ a / b := Int.ediv_nonneg h.ha.1 (by omega)
  have hqa : a / b ≤ a := Int.ediv_le_self _ h.ha.1
  have hr : a - a / b * b = a % b := by have := Int.emod_add_mul_ediv a b; have := Int.mul_comm b (a / b); omega
  have hr0 := Int.emod_nonneg a (show b ≠ 0 by omega)
  have hr1 := Int.emod_lt_of_pos a hb
  have hra : a % b ≤ a := by
    have := Int.mul_nonneg hq (show 0 ≤ b by omega); omega
  have hn : (y.natAbs : Int) * (a - a / b * b) + ((x - a / b * y).natAbs : Int) * b = m := by
    rw [natAbs_sub_mul h.s hq]
    have e : ((a / b).natAbs : Int) = a / b := Int.natAbs_of_nonneg hq
    rw [← h.n]
    push_cast
    rw [e]
    simp only [Int.mul_sub, Int.add_mul]
    have e1 : (y.natAbs : Int) * (a / b * b) = a / b * (y.natAbs : Int) * b := by simp only [Int.mul_assoc, Int.mul_comm]
    rw [e1]
    omega
  have hyb : -m ≤ x - a / b * y ∧ x - a / b * y ≤ m := by
    have k1 : ((x - a / b * y).natAbs : Int) * 1 ≤ ((x - a / b * y).natAbs : Int) * b := Int.mul_le_mul_of_nonneg_left (by omega) (by omega)
    have k2 : 0 ≤ (y.natAbs : Int) * (a - a / b * b) := Int.mul_nonneg (by omega) (by omega)
    omega
  have hxb := h.hx
  have ham := h.ha
  refine ⟨⟨⟨by omega, h.hb.2⟩, ⟨by omega, by omega⟩, h.hy, hyb, h.d2, ?_, ?_, hn, ?_⟩, by omega, by omega, by omega, hq, hqa⟩
  · have := Int.dvd_sub h.d1 (Int.dvd_trans h.d2 (Int.dvd_mul_left (a / b) _))
    have e : (x - a / b * y) * a0 - (a - a / b * b) = x * a0 - a - a / b * (y * a0 - b) := by
      simp only [Int.sub_mul, Int.mul_sub, Int.mul_assoc]; omega
    rw [e]; exact this
  · have e : y * (x - a / b * y) = x * y - a / b * (y * y) := by
      simp only [Int.mul_sub, Int.mul_comm y x, Int.mul_left_comm y (a / b) y]
    rw [e]
    have k0 : 0 ≤ y * y := sq_nonneg y
    have k1 := Int.mul_nonneg hq k0
    have := h.s
    omega
  · rw [← h.g, Int.mul_comm (a / b) b, Int.gcd_sub_mul_left_right, Int.gcd_comm]

/-- At the end of the algorithm. -/
theorem ExtInv.last {m a0 a x y : Int} (h : ExtInv m a0 a 0 x y) : m ∣ x * a0 - (Int.gcd a0 m : Int) := by
  have e := h.g
  rw [Int.gcd_zero] at e
  have := h.ha
  rw [← e, show (a.natAbs : Int) = a by omega]
  exact h.d1

/-- Two numbers below m that undo the same number are one. -/
theorem inv_unique {m a x y : Int} (hx : 0 ≤ x ∧ x < m) (hy : 0 ≤ y ∧ y < m) (h1 : m ∣ x * a - 1) (h2 : m ∣ y * a - 1) : x = y := by
  have e : m ∣ x - y := by
    have k1 : m ∣ x * (y * a - 1) - y * (x * a - 1) := Int.dvd_sub (Int.dvd_mul_of_dvd_right h2) (Int.dvd_mul_of_dvd_right h1)
    have k2 : x * (y * a - 1) - y * (x * a - 1) = y - x := by
      simp only [Int.mul_sub, Int.mul_one, Int.mul_left_comm x y a]; omega
    rw [k2] at k1
    have := (Int.dvd_neg).2 k1
    rwa [Int.neg_sub] at this
  obtain ⟨k, hk⟩ := e
  have hm : 0 < m := by omega
  rcases Int.lt_trichotomy k 0 with h | h | h
  · have : m * k ≤ m * (-1) := Int.mul_le_mul_of_nonneg_left (by omega) (by omega)
    omega
  · subst h; simp at hk; omega
  · have : m * 1 ≤ m * k := Int.mul_le_mul_of_nonneg_left (by omega) (by omega)
    omega

open Classical in
/-- The number from 0 to m - 1 that undoes a. -/
noncomputable def inv (a m : Int) : Int := if h : ∃ x : Int, (0 ≤ x ∧ x < m) ∧ m ∣ x * a - 1 then h.choose else 0
theorem inv_spec {a m x : Int} (hx : 0 ≤ x ∧ x < m) (h : m ∣ x * a - 1) : inv a m = x := by
  have hex : ∃ x : Int, (0 ≤ x ∧ x < m) ∧ m ∣ x * a - 1 := ⟨x, hx, h⟩
  unfold inv
  rw [dif_pos hex]
  exact inv_unique hex.choose_spec.1 hx hex.choose_spec.2 h

theorem emod_one_of_dvd {m x : Int} (h : m ∣ x - 1) : x % m = 1 % m := emod_congr.2 h
theorem dvd_of_emod_one {m x : Int} (h : x % m = 1 % m) : m ∣ x - 1 := emod_congr.1 h

/-- What has an inverse has nothing in common with m. -/
theorem gcd_one_of_dvd {m a x : Int} (h : m ∣ x * a - 1) : Int.gcd a m = 1 := by
  rw [Int.gcd_eq_one_iff]
  intro c h1 h2
  have k1 : c ∣ x * a - 1 := Int.dvd_trans h2 h
  have k2 : c ∣ x * a := Int.dvd_mul_of_dvd_right h1
  have := Int.dvd_sub k2 k1
  rwa [show x * a - (x * a - 1) = 1 by omega] at this

theorem inv_emod_dvd {a m x : Int} (h : m ∣ x * (a % m) - 1) : m ∣ x * a - 1 := by
  rw [← emod_congr] at h ⊢
  rw [← mul_emod_right', h]
theorem gcd_emod (a m : Int) : Int.gcd (a % m) m = Int.gcd a m := by
  rw [Int.emod_def, Int.gcd_sub_mul_left_left]

end Wm

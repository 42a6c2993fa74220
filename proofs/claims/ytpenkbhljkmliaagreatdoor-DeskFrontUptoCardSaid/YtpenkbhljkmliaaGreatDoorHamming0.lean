/-
  Plain facts on the Euclidean algorithm: the number of its steps, Lame's theorem. No program in sight.
-/
set_option linter.unusedVariables false
set_option linter.unusedSimpArgs false
namespace Wm

/-- The number of divisions. -/
def nsteps (a b : Nat) : Nat := if b = 0 then 0 else nsteps b (a % b) + 1
termination_by b
decreasing_by exact Nat.mod_lt _ (by omega)

theorem nsteps_zero (a : Nat) : nsteps a 0 = 0 := by rw [nsteps]; simp
theorem nsteps_pos (a b : Nat) (h : 0 < b) : nsteps a b = nsteps b (a % b) + 1 := by rw [nsteps]; rw [if_neg (by omega)]

theorem nsteps_le (a b : Nat) : nsteps a b ≤ b := by
  induction b using Nat.strongRecOn generalizing a with
  | _ b ih =>
    rcases Nat.eq_zero_or_pos b with rfl | h
    · rw [nsteps_zero]; omega
    · rw [nsteps_pos a b h]
      have := ih (a % b) (Nat.mod_lt _ h) b
      have := Nat.mod_lt a h
      omega

/-- The pair of neighbours in Fibonacci's sequence after k turns. -/
def fibs : Nat → Nat × Nat
  | 0 => (1, 1)
  | k + 1 => ((fibs k).2, (fibs k).1 + (fibs k).2)

theorem fibs_pos (k : Nat) : 0 < (fibs k).1 ∧ (fibs k).1 ≤ (fibs k).2 := by
  induction k with
  | zero => simp [fibs]
  | succ k ih => simp only [fibs]; omega

/-- Lame: after k + 1 divisions. -/
theorem lame (k : Nat) : ∀ a b, nsteps a b = k + 1 → (fibs k).2 ≤ b ∧ (a ≤ b ∨ (fibs k).1 + (fibs k).2 ≤ a) := by
  induction k with
  | zero =>
    intro a b h
    have hb : 0 < b := by
      rcases Nat.eq_zero_or_pos b with rfl | h'
      · rw [nsteps_zero] at h; omega
      · exact h'
    simp only [fibs]
    omega
  | succ k ih =>
    intro a b h
    have hb : 0 < b := by
      rcases Nat.eq_zero_or_pos b with rfl | h'
      · rw [nsteps_zero] at h; omega
      · exact h'
    rw [nsteps_pos a b hb] at h
    have hm := Nat.mod_lt a hb
    obtain ⟨h1, h2⟩ := ih b (a % b) (by omega)
    have hp := fibs_pos k
    simp only [fibs]
    refine ⟨by omega, ?_⟩
    rcases Nat.lt_or_ge b a with hab | hab
    · right
      have := Nat.div_add_mod a b
      have hq : 1 ≤ a / b := (Nat.le_div_iff_mul_le hb).2 (by omega)
      have : b * 1 ≤ b * (a / b) := Nat.mul_le_mul_left _ hq
      omega
    · left; omega

theorem lame' {n a b : Nat} (h : nsteps a b = n) (hn : 0 < n) : (fibs (n - 1)).2 ≤ b ∧ (a ≤ b ∨ (fibs (n - 1)).1 + (fibs (n - 1)).2 ≤ a) :=
  lame (n - 1) a b (by omega)

theorem fibs_mono (k m : Nat) (h : k ≤ m) : (fibs k).1 ≤ (fibs m).1 ∧ (fibs k).2 ≤ (fibs m).2 := by
  induction m with
  | zero => have : k = 0 := by omega
            subst this; omega
  | succ m ih =>
    rcases Nat.lt_or_ge k (m + 1) with h' | h'
    · have := ih (by omega)
      have := fibs_pos m
      simp only [fibs]; omega
    · have : k = m + 1 := by omega
      subst this; omega

end Wm

/-
  Plain facts on remainders: powers by squaring, the extended Euclidean algorithm, inverses. No program in sight.
-/
set_option linter.unusedVariables false
set_option linter.unusedSimpArgs false
namespace Wm

theorem emod_congr {a b m : Int} : a % m = b % m ↔ m ∣ a - b := Int.emod_eq_emod_iff_emod_sub_eq_zero.trans ⟨Int.dvd_of_emod_eq_zero, Int.emod_eq_zero_of_dvd⟩

theorem mul_emod_left' (a b m : Int) : (a % m * b) % m = a * b % m := by rw [Int.mul_emod, Int.emod_emod_of_dvd _ (Int.dvd_refl m), ← Int.mul_emod]
theorem mul_emod_right' (a b m : Int) : (a * (b % m)) % m = a * b % m := by rw [Int.mul_emod, Int.emod_emod_of_dvd _ (Int.dvd_refl m), ← Int.mul_emod]

theorem pow_emod (a m : Int) (n : Nat) : (a % m) ^ n % m = a ^ n % m := by
  induction n with
  | zero => simp
  | succ n ih => rw [Int.pow_succ, Int.pow_succ, Int.mul_emod, ih, Int.emod_emod_of_dvd _ (Int.dvd_refl m), ← Int.mul_emod]

/-- One turn of the powers by squaring, an odd exponent. -/
theorem pow_odd (out a m : Int) (n : Nat) (h : n % 2 = 1) : (out * a % m) * (a * a % m) ^ (n / 2) % m = out * a ^ n % m := by
  have e : n = 2 * (n / 2) + 1 := by omega
  conv => rhs; rw [e, Int.pow_succ, Int.pow_mul]
  rw [mul_emod_left', Int.mul_emod, pow_emod, ← Int.mul_emod]
  congr 1
  rw [show a ^ 2 = a * a from by rw [Int.pow_succ, Int.pow_succ, Int.pow_zero, Int.one_mul]]
  simp only [Int.mul_assoc, Int.mul_comm]
theorem pow_even (out a m : Int) (n : Nat) (h : n % 2 = 0) : out * (a * a % m) ^ (n / 2) % m = out * a ^ n % m := by
  have e : n = 2 * (n / 2) := by omega
  conv => rhs; rw [e, Int.pow_mul]
  rw [Int.mul_emod, pow_emod, ← Int.mul_emod]
  congr 2
  rw [show a ^ 2 = a * a from by rw [Int.pow_succ, Int.pow_succ, Int.pow_zero, Int.one_mul]]

theorem sq_nonneg (y : Int) : 0 ≤ y * y := by
  rcases Int.le_total 0 y with h | h
  · exact Int.mul_nonneg h h
  · exact Int.mul_nonneg_of_nonpos_of_nonpos h h

theorem natAbs_sub_mul {x y q : Int} (hs : x * y ≤ 0) (hq : 0 ≤ q) : (x - q * y).natAbs = x.natAbs + q.natAbs * y.natAbs := by
  rw [← Int.natAbs_mul]
  rcases Int.lt_trichotomy y 0 with h | h | h
  · have hx : 0 ≤ x := by
      rcases Int.lt_or_le x 0 with h' | h'
      · have := Int.mul_pos_of_neg_of_neg h' h; omega
      · exact h'
    have : q * y ≤ 0 := Int.mul_nonpos_of_nonneg_of_nonpos hq (by omega)
    omega
  · subst h; simp
  · have hx : x ≤ 0 := by
      rcases Int.lt_or_le 0 x with h' | h'
      · have := Int.mul_pos h' h; omega
      · exact h'
    have : 0 ≤ q * y := Int.mul_nonneg hq (by omega)
    omega

/-- What holds at each turn of the extended algorithm. -/
structure ExtInv (m a0 a b x y : Int) : Prop where
  ha : 0 ≤ a ∧ a ≤ m
  hb : 0 ≤ b ∧ b ≤ m
  hx : -m ≤ x ∧ x ≤ m
  hy : -m ≤ y ∧ y ≤ m
  d1 : m ∣ x * a0 - a
  d2 : m ∣ y * a0 - b
  s : x * y ≤ 0
  n : (x.natAbs : Int) * b + (y.natAbs : Int) * a = m
  g : Int.gcd a b = Int.gcd a0 m

theorem ExtInv.start {m a0 : Int} (hm : 1 ≤ m) (h : 0 ≤ a0 ∧ a0 < m) : ExtInv m a0 a0 m 1 0 :=
  ⟨by omega, by omega, by omega, by omega, by simp, by simp [Int.dvd_neg], by simp, by simp, rfl⟩

theorem ExtInv.step {m a0 a b x y : Int} (h : ExtInv m a0 a b x y) (hb : 0 < b) :
    ExtInv m a0 b (a - a / b * b) y (x - a / b * y) ∧ (-(2 * m) ≤ a / b * y ∧ a / b * y ≤ 2 * m) ∧ (0 ≤ a / b * b ∧ a / b * b ≤ a) ∧ a - a / b * b < b ∧ (0 ≤ a / b ∧ a / b ≤ a) := by
  have hq : 0 ≤ a / b := Int.ediv_nonneg h.ha.1 (by omega)
  have hqa : a / b ≤ a := Int.ediv_le_self _ h.ha.1
  have hr : a - a / b * b = a % b := by have := Int.emod_add_mul_ediv a b; have := Int.mul_comm b (a / b); omega
  have hr0 := Int.emod_nonneg a (show b ≠ 0 by omega)
  have hr1 := Int.emod_lt_of_pos a hb
  have hra : a % b ≤ a := by
    have := Int.mul_nonneg hq (show 0 ≤ b by omega); omega
  have hn : (y.natAbs : Int) * (a - a / b * b) + ((x - a / b * y).natAbs : Int) * b = m := by
    rw [natAbs_sub_mul h.s hq]
    have e : ((a / b).natAbs : Int) = a / b := Int.natAbs_of_nonneg hq
    rw [← h.n]
    push_cast
    rw [e]
    simp only [Int.mul_sub, Int.add_mul]
    have e1 : (y.natAbs : Int) * (a / b * b) = a / b * (y.natAbs : Int) * b := by simp only [Int.mul_assoc, Int.mul_comm]
    rw [e1]
    omega
  have hyb : -m ≤ x - a / b * y ∧ x - a / b * y ≤ m := by
    have k1 : ((x - a / b * y).natAbs : Int) * 1 ≤ ((x - a / b * y).natAbs : Int) * b := Int.mul_le_mul_of_nonneg_left (by omega) (by omega)
    have k2 : 0 ≤ (y.natAbs : Int) * (a - a / b * b) := Int.mul_nonneg (by omega) (by omega)
    omega
  have hxb := h.hx
  have ham := h.ha
  refine ⟨⟨⟨by omega, h.hb.2⟩, ⟨by omega, by omega⟩, h.hy, hyb, h.d2, ?_, ?_, hn, ?_⟩, by omega, by omega, by omega, hq, hqa⟩
  · have := Int.dvd_sub h.d1 (Int.dvd_trans h.d2 (Int.dvd_mul_left (a / b) _))
    have e : (x - a / b * y) * a0 - (a - a / b * b) = x * a0 - a - a / b * (y * a0 - b) := by
      simp only [Int.sub_mul, Int.mul_sub, Int.mul_assoc]; omega
    rw [e]; exact this
  · have e : y * (x - a / b * y) = x * y - a / b * (y * y) := by
      simp only [Int.mul_sub, Int.mul_comm y x, Int.mul_left_comm y (a / b) y]
    rw [e]
    have k0 : 0 ≤ y * y := sq_nonneg y
    have k1 := Int.mul_nonneg hq k0
    have := h.s
    omega
  · rw [← h.g, Int.mul_comm (a / b) b, Int.gcd_sub_mul_left_right, Int.gcd_comm]

/-- At the end of the algorithm. -/
theorem ExtInv.last {m a0 a x y : Int} (h : ExtInv m a0 a 0 x y) : m ∣ x * a0 - (Int.gcd a0 m : Int) := by
  have e := h.g
  rw [Int.gcd_zero] at e
  have := h.ha
  rw [← e, show (a.natAbs : Int) = a by omega]
  exact h.d1

/-- Two numbers below m that undo the same number are one. -/
theorem inv_unique {m a x y : Int} (hx : 0 ≤ x ∧ x < m) (hy : 0 ≤ y ∧ y < m) (h1 : m ∣ x * a - 1) (h2 : m ∣ y * a - 1) : x = y := by
  have e : m ∣ x - y := by
    have k1 : m ∣ x * (y * a - 1) - y * (x * a - 1) := Int.dvd_sub (Int.dvd_mul_of_dvd_right h2) (Int.dvd_mul_of_dvd_right h1)
    have k2 : x * (y * a - 1) - y * (x * a - 1) = y - x := by
      simp only [Int.mul_sub, Int.mul_one, Int.mul_left_comm x y a]; omega
    rw [k2] at k1
    have := (Int.dvd_neg).2 k1
    rwa [Int.neg_sub] at this
  obtain ⟨k, hk⟩ := e
  have hm : 0 < m := by omega
  rcases Int.lt_trichotomy k 0 with h | h | h
  · have : m * k ≤ m * (-1) := Int.mul_le_mul_of_nonneg_left (by omega) (by omega)
    omega
  · subst h; simp at hk; omega
  · have : m * 1 ≤ m * k := Int.mul_le_mul_of_nonneg_left (by omega) (by omega)
    omega

open Classical in
/-- The number from 0 to m - 1 that undoes a. -/
noncomputable def inv (a m : Int) : Int := if h : ∃ x : Int, (0 ≤ x ∧ x < m) ∧ m ∣ x * a - 1 then h.choose else 0
theorem inv_spec {a m x : Int} (hx : 0 ≤ x ∧ x < m) (h : m ∣ x * a - 1) : inv a m = x := by
  have hex : ∃ x : Int, (0 ≤ x ∧ x < m) ∧ m ∣ x * a - 1 := ⟨x, hx, h⟩
  unfold inv
  rw [dif_pos hex]
  exact inv_unique hex.choose_spec.1 hx hex.choose_spec.2 h

theorem emod_one_of_dvd {m x : Int} (h : m ∣ x - 1) : x % m = 1 % m := emod_congr.2 h
theorem dvd_of_emod_one {m x : Int} (h : x % m = 1 % m) : m ∣ x - 1 := emod_congr.1 h

/-- What has an inverse has nothing in common with m. -/
theorem gcd_one_of_dvd {m a x : Int} (h : m ∣ x * a - 1) : Int.gcd a m = 1 := by
  rw [Int.gcd_eq_one_iff]
  intro c h1 h2
  have k1 : c ∣ x * a - 1 := Int.dvd_trans h2 h
  have k2 : c ∣ x * a := Int.dvd_mul_of_dvd_right h1
  have := Int.dvd_sub k2 k1
  rwa [show x * a - (x * a - 1) = 1 by omega] at this

theorem inv_emod_dvd {a m x : Int} (h : m ∣ x * (a % m) - 1) : m ∣ x * a - 1 := by
  rw [← emod_congr] at h ⊢
  rw [← mul_emod_right', h]
theorem gcd_emod (a m : Int) : Int.gcd (a % m) m = Int.gcd a m := by
  rw [Int.emod_def, Int.gcd_sub_mul_left_left]

end Wm

/-
  Plain facts on primes: trial division, Euclid's lemma, a prime between n and 2n for the n that are asked, Wilson's theorem for the n that are asked. No program in sight.
-/
set_option linter.unusedVariables false
set_option linter.unusedSimpArgs false
namespace Wm

def Prime (p : Nat) : Prop := 1 < p ∧ ∀ d, d ∣ p → d = 1 ∨ d = p

noncomputable def isp (n : Nat) : Bool := @decide (Prime n) (Classical.propDecidable _)
theorem isp_true {n : Nat} (h : Prime n) : isp n = true := by simp [isp, h]
theorem isp_false {n : Nat} (h : ¬ Prime n) : isp n = false := by simp [isp, h]
theorem isp_iff {n : Nat} : isp n = true ↔ Prime n := by simp [isp]

theorem Prime.coprime {p a : Nat} (h : Prime p) (ha : ¬ p ∣ a) : Nat.Coprime p a := by
  rcases h.2 _ (Nat.gcd_dvd_left p a) with e | e
  · exact e
  · exact absurd (e ▸ Nat.gcd_dvd_right p a) ha
theorem Prime.dvd_mul {p a b : Nat} (h : Prime p) (hd : p ∣ a * b) : p ∣ a ∨ p ∣ b := by
  by_cases ha : p ∣ a
  · exact .inl ha
  · exact .inr ((h.coprime ha).dvd_of_dvd_mul_left hd)
theorem Prime.pos {p : Nat} (h : Prime p) : 0 < p := by have := h.1; omega

theorem prime_of_trial {n d : Nat} (h1 : 1 < n) (hd : n < d * d) (h : ∀ e, 2 ≤ e → e < d → ¬ e ∣ n) : Prime n := by
  refine ⟨h1, fun e he => ?_⟩
  obtain ⟨f, hf⟩ := he
  have he0 : 0 < e := Nat.pos_of_ne_zero (fun h0 => by subst h0; simp at hf; omega)
  have hf0 : 0 < f := Nat.pos_of_ne_zero (fun h0 => by subst h0; simp at hf; omega)
  by_cases h1 : e = 1
  · exact .inl h1
  · right
    have hed : d ≤ e := by
      rcases Nat.lt_or_ge e d with h' | h'
      · exact absurd ⟨f, hf⟩ (h e (by omega) h')
      · exact h'
    have hfd : f < d := by
      rcases Nat.lt_or_ge f d with h' | h'
      · exact h'
      · have : d * d ≤ e * f := Nat.mul_le_mul hed h'
        omega
    by_cases hf1 : f = 1
    · subst hf1; omega
    · exact absurd ⟨e, by rw [Nat.mul_comm]; exact hf⟩ (h f (by omega) hfd)
theorem not_prime_of_dvd {n e : Nat} (h2 : 2 ≤ e) (hlt : e < n) (hd : e ∣ n) : ¬ Prime n := fun h => by
  rcases h.2 e hd with h' | h' <;> omega
theorem exists_dvd_of_not_prime {n : Nat} (h1 : 1 < n) (h : ¬ Prime n) : ∃ d, 1 < d ∧ d < n ∧ d ∣ n := by
  apply Classical.byContradiction
  intro hn
  refine h ⟨h1, fun d hd => ?_⟩
  have hle := Nat.le_of_dvd (by omega) hd
  have hpos : 0 < d := Nat.pos_of_dvd_of_pos hd (by omega)
  by_cases h1 : d = 1
  · exact .inl h1
  · by_cases h2 : d = n
    · exact .inr h2
    · exact absurd ⟨d, by omega, by omega, hd⟩ hn

/-- Trial division as the kernel can reckon it. -/
def nodiv (n : Nat) : Nat → Nat → Bool
  | 0, _ => true
  | f + 1, d => n % d != 0 && nodiv n f (d + 1)
theorem nodiv_spec {n : Nat} : ∀ {f d : Nat}, nodiv n f d = true → ∀ e, d ≤ e → e < d + f → ¬ e ∣ n
  | 0, _, _, e, h1, h2 => by omega
  | f + 1, d, h, e, h1, h2 => by
    simp only [nodiv, Bool.and_eq_true, bne_iff_ne] at h
    by_cases he : e = d
    · subst he; intro hd; exact h.1 (Nat.mod_eq_zero_of_dvd hd)
    · exact nodiv_spec h.2 e (by omega) (by omega)
def pchk (n r : Nat) : Bool := decide (1 < n) && decide (n < (2 + r) * (2 + r)) && nodiv n r 2
theorem pchk_spec {n r : Nat} (h : pchk n r = true) : Prime n := by
  simp only [pchk, Bool.and_eq_true, decide_eq_true_eq] at h
  exact prime_of_trial h.1.1 h.1.2 (fun e h1 h2 => nodiv_spec h.2 e h1 h2)
theorem nodiv_of {n : Nat} : ∀ {f d : Nat}, (∀ e, d ≤ e → e < d + f → ¬ e ∣ n) → nodiv n f d = true
  | 0, _, _ => rfl
  | f + 1, d, h => by
    simp only [nodiv, Bool.and_eq_true, bne_iff_ne]
    exact ⟨fun h0 => h d (Nat.le_refl _) (by omega) (Nat.dvd_of_mod_eq_zero h0), nodiv_of fun e h1 h2 => h e (by omega) (by omega)⟩
theorem Prime.nodiv {n f : Nat} (h : Prime n) (hf : f + 2 ≤ n) : nodiv n f 2 = true :=
  nodiv_of fun e h1 h2 hd => by rcases h.2 e hd with h' | h' <;> omega

theorem prime_97 : Prime 97 := pchk_spec (r := 8) (by decide +kernel)
theorem prime_999983 : Prime 999983 := pchk_spec (r := 999) (by decide +kernel)
theorem not_prime_91 : ¬ Prime 91 := not_prime_of_dvd (e := 7) (by omega) (by omega) (by decide)

theorem bertrand {n : Nat} (h1 : 2 ≤ n) (h2 : n ≤ 500000) : ∃ p, Prime p ∧ n < p ∧ p < 2 * n := by
  have step : ∀ q p r : Nat, pchk p r = true → p < 2 * q → q ≤ n → n < p → ∃ p, Prime p ∧ n < p ∧ p < 2 * n := fun q p r hp h3 h4 h5 => ⟨p, pchk_spec hp, h5, by omega⟩
  by_cases a1 : n < 3
  · exact step 2 3 0 (by decide +kernel) (by omega) (by omega) a1
  by_cases a2 : n < 5
  · exact step 3 5 1 (by decide +kernel) (by omega) (by omega) a2
  by_cases a3 : n < 7
  · exact step 5 7 1 (by decide +kernel) (by omega) (by omega) a3
  by_cases a4 : n < 13
  · exact step 7 13 2 (by decide +kernel) (by omega) (by omega) a4
  by_cases a5 : n < 23
  · exact step 13 23 3 (by decide +kernel) (by omega) (by omega) a5
  by_cases a6 : n < 43
  · exact step 23 43 5 (by decide +kernel) (by omega) (by omega) a6
  by_cases a7 : n < 83
  · exact step 43 83 8 (by decide +kernel) (by omega) (by omega) a7
  by_cases a8 : n < 163
  · exact step 83 163 11 (by decide +kernel) (by omega) (by omega) a8
  by_cases a9 : n < 317
  · exact step 163 317 16 (by decide +kernel) (by omega) (by omega) a9
  by_cases a10 : n < 631
  · exact step 317 631 24 (by decide +kernel) (by omega) (by omega) a10
  by_cases a11 : n < 1259
  · exact step 631 1259 34 (by decide +kernel) (by omega) (by omega) a11
  by_cases a12 : n < 2503
  · exact step 1259 2503 49 (by decide +kernel) (by omega) (by omega) a12
  by_cases a13 : n < 5003
  · exact step 2503 5003 69 (by decide +kernel) (by omega) (by omega) a13
  by_cases a14 : n < 9973
  · exact step 5003 9973 98 (by decide +kernel) (by omega) (by omega) a14
  by_cases a15 : n < 19937
  · exact step 9973 19937 140 (by decide +kernel) (by omega) (by omega) a15
  by_cases a16 : n < 39869
  · exact step 19937 39869 198 (by decide +kernel) (by omega) (by omega) a16
  by_cases a17 : n < 79699
  · exact step 39869 79699 281 (by decide +kernel) (by omega) (by omega) a17
  by_cases a18 : n < 159389
  · exact step 79699 159389 398 (by decide +kernel) (by omega) (by omega) a18
  by_cases a19 : n < 318751
  · exact step 159389 318751 563 (by decide +kernel) (by omega) (by omega) a19
  by_cases a20 : n < 637499
  · exact step 318751 637499 797 (by decide +kernel) (by omega) (by omega) a20
  omega

/-- The product of 2, 3, .. j + 1, left by n. -/
def wseq (n : Nat) : Nat → Nat
  | 0 => 1
  | j + 1 => wseq n j * (j + 2) % n
theorem wseq_dvd {n d : Nat} (hd : d ∣ n) (h1 : 1 < d) : ∀ j, d ≤ j + 1 → d ∣ wseq n j
  | 0, h => by omega
  | j + 1, h => by
    simp only [wseq]
    rw [Nat.dvd_mod_iff hd]
    by_cases he : d = j + 2
    · rw [he]; exact Nat.dvd_mul_left _ _
    · exact Nat.dvd_mul_right_of_dvd (wseq_dvd hd h1 j (by omega)) _
theorem wseq_lt {n : Nat} (hn : 2 ≤ n) (j : Nat) : wseq n j < n := by
  cases j with
  | zero => simp only [wseq]; omega
  | succ j => simp only [wseq]; exact Nat.mod_lt _ (by omega)
def wchk (n : Nat) : Bool := !(pchk n (min 43 (n - 2))) || wseq n (n - 2) == n - 1
theorem wchk_all : (List.range 2002).all wchk = true := by decide +kernel
theorem wilson {n : Nat} (h1 : 2 ≤ n) (h2 : n ≤ 2001) : isp n = decide (wseq n (n - 2) = n - 1) := by
  by_cases hp : Prime n
  · rw [isp_true hp]
    have h := List.all_eq_true.1 wchk_all n (List.mem_range.2 (by omega))
    simp only [wchk, Bool.or_eq_true, Bool.not_eq_true', beq_iff_eq] at h
    rcases h with h | h
    · exfalso
      have : pchk n (min 43 (n - 2)) = true := by
        simp only [pchk, Bool.and_eq_true, decide_eq_true_eq]
        refine ⟨⟨hp.1, ?_⟩, hp.nodiv (by omega)⟩
        rcases Nat.lt_or_ge n 45 with h' | h'
        · rw [Nat.min_eq_right (by omega), show 2 + (n - 2) = n by omega]
          exact Nat.lt_mul_self_iff.2 h1
        · rw [Nat.min_eq_left (by omega)]; omega
      simp [this] at h
    · simp [h]
  · rw [isp_false hp]
    obtain ⟨d, d1, d2, d3⟩ := exists_dvd_of_not_prime (by omega) hp
    symm
    rw [decide_eq_false_iff_not]
    intro he
    have k1 := wseq_dvd d3 d1 (n - 2) (by omega)
    rw [he] at k1
    have k2 := (Nat.dvd_sub d3 k1)
    rw [show n - (n - 1) = 1 by omega] at k2
    have := Nat.le_of_dvd (by omega) k2
    omega

end Wm

/-
  Plain facts on factorizations: what the trial division keeps true; valuations; factorizations of products. No program in sight.
-/
set_option linter.unusedVariables false
set_option linter.unusedSimpArgs false
namespace Wm

def prodP : List (Nat × Nat) → Nat
  | [] => 1
  | x :: l => x.1 ^ x.2 * prodP l
theorem prodP_append : ∀ l m : List (Nat × Nat), prodP (l ++ m) = prodP l * prodP m
  | [], m => by simp [prodP]
  | x :: l, m => by simp only [List.cons_append, prodP, prodP_append l m, Nat.mul_assoc]

def IsFac (n : Nat) (l : List (Nat × Nat)) : Prop := (l.Pairwise fun a b => a.1 < b.1) ∧ (∀ x ∈ l, Prime x.1 ∧ 1 ≤ x.2) ∧ prodP l = n

/-- What holds at the head of the trial division: n = prodP l * r, and what is left has no divisor below d. -/
def FacAt (n r d : Nat) (l : List (Nat × Nat)) : Prop :=
  prodP l * r = n ∧ (l.Pairwise fun a b => a.1 < b.1) ∧ (∀ x ∈ l, Prime x.1 ∧ 1 ≤ x.2 ∧ x.1 < d) ∧ 1 ≤ r ∧ (∀ e, 2 ≤ e → e < d → ¬ e ∣ r) ∧ 2 ≤ d

theorem FacAt.start {n : Nat} (h : 1 ≤ n) : FacAt n n 2 [] := ⟨by simp [prodP], List.Pairwise.nil, fun x h => by simp at h, h, fun e h1 h2 => by omega, Nat.le_refl _⟩
theorem FacAt.done {n r d : Nat} {l : List (Nat × Nat)} (h : FacAt n r d l) (hr : r ≤ 1) : IsFac n l := by
  obtain ⟨h1, h2, h3, h4, -, -⟩ := h
  obtain rfl : r = 1 := by omega
  exact ⟨h2, fun x hx => ⟨(h3 x hx).1, (h3 x hx).2.1⟩, by rw [← h1, Nat.mul_one]⟩
/-- Where d * d is greater than what is left, that is a prime: d is set to it. -/
theorem FacAt.jump {n r d : Nat} {l : List (Nat × Nat)} (h : FacAt n r d l) (hr : 1 < r) (hd : r < d * d) : FacAt n r r l := by
  obtain ⟨h1, h2, h3, h4, h5, h6⟩ := h
  have hp : Prime r := prime_of_trial hr hd h5
  have hdr : d ≤ r := by
    rcases Nat.lt_or_ge r d with h | h
    · exact absurd (Nat.dvd_refl r) (h5 r hr h)
    · exact h
  refine ⟨h1, h2, fun x hx => ⟨(h3 x hx).1, (h3 x hx).2.1, Nat.lt_of_lt_of_le (h3 x hx).2.2 hdr⟩, h4, fun e he1 he2 hdv => ?_, by omega⟩
  rcases hp.2 e hdv with h | h <;> omega
theorem FacAt.skip {n r d : Nat} {l : List (Nat × Nat)} (h : FacAt n r d l) (hno : ¬ d ∣ r) : FacAt n r (d + 1) l := by
  obtain ⟨h1, h2, h3, h4, h5, h6⟩ := h
  refine ⟨h1, h2, fun x hx => ⟨(h3 x hx).1, (h3 x hx).2.1, by have := (h3 x hx).2.2; omega⟩, h4, fun e he1 he2 => ?_, by omega⟩
  by_cases h : e = d
  · rw [h]; exact hno
  · exact h5 e he1 (by omega)
theorem FacAt.take {n r d k s : Nat} {l : List (Nat × Nat)} (h : FacAt n r d l) (hk : 0 < k) (hs : r = d ^ k * s) (hno : ¬ d ∣ s) : FacAt n s (d + 1) (l ++ [(d, k)]) := by
  obtain ⟨h1, h2, h3, h4, h5, h6⟩ := h
  have hdr : d ∣ r := by
    rw [hs]
    exact Nat.dvd_trans (Nat.dvd_of_mod_eq_zero (by obtain ⟨j, rfl⟩ : ∃ j, k = j + 1 := ⟨k - 1, by omega⟩; rw [Nat.pow_succ]; exact Nat.mul_mod_left _ _)) (Nat.dvd_mul_right _ _)
  have hsr : s ∣ r := ⟨d ^ k, by rw [hs, Nat.mul_comm]⟩
  have hp : Prime d := ⟨by omega, fun e he => by
    have he0 : e ≤ d := Nat.le_of_dvd (by omega) he
    have he1 : 0 < e := Nat.pos_of_dvd_of_pos he (by omega)
    by_cases hlt : e < d
    · left
      by_cases h2 : 2 ≤ e
      · exact absurd (Nat.dvd_trans he hdr) (h5 e h2 hlt)
      · omega
    · right; omega⟩
  have hs1 : 1 ≤ s := by
    rcases Nat.eq_zero_or_pos s with h | h
    · rw [h] at hs; omega
    · exact h
  refine ⟨?_, ?_, ?_, hs1, fun e he1 he2 hdv => ?_, by omega⟩
  · rw [prodP_append, ← h1, hs]
    simp [prodP, Nat.mul_assoc]
  · rw [List.pairwise_append]
    refine ⟨h2, by simp, fun a ha b hb => ?_⟩
    simp only [List.mem_singleton] at hb
    subst hb
    exact (h3 a ha).2.2
  · intro x hx
    simp only [List.mem_append, List.mem_singleton] at hx
    rcases hx with hx | rfl
    · have := h3 x hx
      exact ⟨this.1, this.2.1, by omega⟩
    · exact ⟨hp, hk, by omega⟩
  · by_cases h : e = d
    · rw [h] at hdv; exact hno hdv
    · exact h5 e he1 (by omega) (Nat.dvd_trans hdv hsr)

theorem prodP_pos : ∀ {l : List (Nat × Nat)}, (∀ x ∈ l, Prime x.1 ∧ 1 ≤ x.2) → 2 ^ l.length ≤ prodP l
  | [], _ => by simp [prodP]
  | x :: l, h => by
    have ih := prodP_pos (l := l) fun y hy => h y (by simp [hy])
    have hx := h x (by simp)
    have h2 : 2 ≤ x.1 ^ x.2 := by
      have a : 2 ≤ x.1 := hx.1.1
      exact Nat.le_trans a (Nat.le_self_pow (by omega) _)
    simp only [prodP, List.length_cons, Nat.pow_succ]
    rw [Nat.mul_comm]
    exact Nat.mul_le_mul h2 ih
theorem FacAt.len {n r d : Nat} {l : List (Nat × Nat)} (h : FacAt n r d l) (hn : n ≤ 1000000) : l.length ≤ 1000000 := by
  obtain ⟨h1, h2, h3, h4, -, -⟩ := h
  have := prodP_pos (l := l) fun x hx => ⟨(h3 x hx).1, (h3 x hx).2.1⟩
  have h5 : l.length < 2 ^ l.length := Nat.lt_two_pow_self
  have h6 : prodP l * 1 ≤ prodP l * r := Nat.mul_le_mul_left _ h4
  omega

/-! ### Valuations -/
/-- p divides n just k times. -/
def Val (p k n : Nat) : Prop := p ^ k ∣ n ∧ ¬ p ^ (k + 1) ∣ n
theorem Val.unique {p j k n : Nat} (h : Val p j n) (h' : Val p k n) : j = k := by
  rcases Nat.lt_trichotomy j k with hlt | rfl | hlt
  · exact absurd (Nat.dvd_trans (Nat.pow_dvd_pow p hlt) h'.1) h.2
  · rfl
  · exact absurd (Nat.dvd_trans (Nat.pow_dvd_pow p hlt) h.1) h'.2
theorem val_one {p : Nat} (h : 1 < p) : Val p 0 1 := ⟨by simp, fun hd => by
  rw [Nat.zero_add, Nat.pow_one] at hd
  have := Nat.le_of_dvd (by omega) hd
  omega⟩
theorem Val.form {p k n : Nat} (hp : 0 < p) (h : Val p k n) : ∃ r, n = p ^ k * r ∧ ¬ p ∣ r := by
  obtain ⟨r, rfl⟩ := h.1
  refine ⟨r, rfl, fun hd => h.2 ?_⟩
  obtain ⟨q, rfl⟩ := hd
  exact ⟨q, by rw [Nat.pow_succ, Nat.mul_assoc]⟩
theorem val_of_form {p k r : Nat} (hp : 0 < p) (h : ¬ p ∣ r) : Val p k (p ^ k * r) := ⟨⟨r, rfl⟩, fun hd => h (by
  rw [Nat.pow_succ] at hd
  exact Nat.dvd_of_mul_dvd_mul_left (Nat.pow_pos hp) hd)⟩
theorem Val.mul {p j k a b : Nat} (hp : Prime p) (ha : Val p j a) (hb : Val p k b) : Val p (j + k) (a * b) := by
  obtain ⟨r, rfl, hr⟩ := ha.form hp.pos
  obtain ⟨s, rfl, hs⟩ := hb.form hp.pos
  have : p ^ j * r * (p ^ k * s) = p ^ (j + k) * (r * s) := by
    rw [Nat.pow_add]; ac_rfl
  rw [this]
  exact val_of_form hp.pos fun hd => by rcases hp.dvd_mul hd with h | h <;> contradiction
theorem val_pow_same {p : Nat} (hp : Prime p) (k : Nat) : Val p k (p ^ k) := by
  have := val_of_form (k := k) hp.pos (r := 1) (fun hd => by have := Nat.le_of_dvd (by omega) hd; have := hp.1; omega)
  rwa [Nat.mul_one] at this
theorem prime_dvd_pow {p q k : Nat} (hp : Prime p) (h : p ∣ q ^ k) : p ∣ q := by
  induction k with
  | zero =>
    rw [Nat.pow_zero] at h
    have := Nat.le_of_dvd (by omega) h
    have := hp.1
    omega
  | succ k ih =>
    rw [Nat.pow_succ] at h
    rcases hp.dvd_mul h with h | h
    · exact ih h
    · exact h
theorem val_pow_other {p q : Nat} (hp : Prime p) (hq : Prime q) (h : p ≠ q) (k : Nat) : Val p 0 (q ^ k) := ⟨by simp, fun hd => by
  rw [Nat.zero_add, Nat.pow_one] at hd
  have := hq.2 p (prime_dvd_pow hp hd)
  have := hp.1
  omega⟩

/-- How often a factorization names a prime. -/
def cnt (p : Nat) : List (Nat × Nat) → Nat
  | [] => 0
  | x :: l => (if x.1 = p then x.2 else 0) + cnt p l
theorem cnt_append (p : Nat) : ∀ l m, cnt p (l ++ m) = cnt p l + cnt p m
  | [], m => by simp [cnt]
  | x :: l, m => by simp only [List.cons_append, cnt, cnt_append p l m, Nat.add_assoc]
theorem cnt_val {p : Nat} (hp : Prime p) : ∀ {l : List (Nat × Nat)}, (∀ x ∈ l, Prime x.1 ∧ 1 ≤ x.2) → Val p (cnt p l) (prodP l)
  | [], _ => val_one hp.1
  | x :: l, h => by
    have ih := cnt_val hp (l := l) fun y hy => h y (by simp [hy])
    have hx := h x (by simp)
    simp only [cnt, prodP]
    refine Val.mul hp ?_ ih
    split
    · rename_i e; rw [← e]; exact val_pow_same hx.1 x.2
    · rename_i e; exact val_pow_other hp hx.1 (fun h => e h.symm) x.2
theorem cnt_mem {l : List (Nat × Nat)} (hs : l.Pairwise fun a b => a.1 < b.1) {x : Nat × Nat} (hx : x ∈ l) : cnt x.1 l = x.2 := by
  induction l with
  | nil => simp at hx
  | cons y l ih =>
    rw [List.pairwise_cons] at hs
    have hz : ∀ m : List (Nat × Nat), (∀ z ∈ m, y.1 < z.1) → cnt y.1 m = 0 := fun m => by
      induction m with
      | nil => intro _; rfl
      | cons z m ihm =>
        intro h
        simp only [cnt]
        rw [if_neg (by have := h z (by simp); omega), ihm fun q hq => h q (by simp [hq])]
    simp only [List.mem_cons] at hx
    rcases hx with rfl | hx
    · simp only [cnt, if_true]
      rw [hz l hs.1]; rfl
    · simp only [cnt]
      rw [if_neg (by have := hs.1 x hx; omega), ih hs.2 hx, Nat.zero_add]
theorem cnt_pos {l : List (Nat × Nat)} {p : Nat} (h : 0 < cnt p l) : ∃ x ∈ l, x.1 = p := by
  induction l with
  | nil => simp [cnt] at h
  | cons y l ih =>
    simp only [cnt] at h
    by_cases e : y.1 = p
    · exact ⟨y, by simp, e⟩
    · rw [if_neg e, Nat.zero_add] at h
      obtain ⟨x, hx, hp⟩ := ih h
      exact ⟨x, by simp [hx], hp⟩
/-- GAUSS: the primes of a product are those of both. -/
theorem fac_mul {a b : Nat} {x y z : List (Nat × Nat)} (hx : IsFac a x) (hy : IsFac b y) (hz : IsFac (a * b) z) {p : Nat} (hp : Prime p) : cnt p z = cnt p (x ++ y) := by
  have h1 := cnt_val hp hx.2.1
  have h2 := cnt_val hp hy.2.1
  have h3 := cnt_val hp hz.2.1
  rw [hx.2.2] at h1
  rw [hy.2.2] at h2
  rw [hz.2.2] at h3
  rw [cnt_append]
  exact h3.unique (h1.mul hp h2)
/-- A number has one factorization alone. -/
theorem fac_cnt {n : Nat} {x y : List (Nat × Nat)} (hx : IsFac n x) (hy : IsFac n y) {p : Nat} (hp : Prime p) : cnt p x = cnt p y := by
  have h1 := cnt_val hp hx.2.1
  have h2 := cnt_val hp hy.2.1
  rw [hx.2.2] at h1
  rw [hy.2.2] at h2
  exact h1.unique h2
theorem fac_unique {n : Nat} {x y : List (Nat × Nat)} (hx : IsFac n x) (hy : IsFac n y) : x = y := by
  have key : ∀ {x y : List (Nat × Nat)}, IsFac n x → IsFac n y → ∀ q ∈ x, q ∈ y := fun {x y} hx hy q hq => by
    have hp := (hx.2.1 q hq).1
    have h1 := cnt_mem hx.1 hq
    rw [fac_cnt hx hy hp] at h1
    obtain ⟨z, hz, hzp⟩ := cnt_pos (l := y) (p := q.1) (by rw [h1]; exact (hx.2.1 q hq).2)
    have h2 := cnt_mem hy.1 hz
    rw [hzp, h1] at h2
    have : z = q := Prod.ext hzp h2.symm
    rw [← this]; exact hz
  have sorted : ∀ {x y : List (Nat × Nat)}, x.Pairwise (fun a b => a.1 < b.1) → y.Pairwise (fun a b => a.1 < b.1) → (∀ q, q ∈ x ↔ q ∈ y) → x = y := fun {x} => by
    induction x with
    | nil =>
      intro y _ _ h
      cases y with
      | nil => rfl
      | cons b y => exact absurd ((h b).2 (by simp)) (by simp)
    | cons a x ih =>
      intro y h1 h2 h
      cases y with
      | nil => exact absurd ((h a).1 (by simp)) (by simp)
      | cons b y =>
        rw [List.pairwise_cons] at h1 h2
        have hab : a = b := by
          have ha := (h a).1 (by simp)
          have hb := (h b).2 (by simp)
          simp only [List.mem_cons] at ha hb
          rcases ha with ha | ha
          · exact ha
          · rcases hb with hb | hb
            · exact hb.symm
            · have := h1.1 b hb
              have := h2.1 a ha
              omega
        subst hab
        congr 1
        refine ih h1.2 h2.2 fun q => ?_
        have hq := h q
        simp only [List.mem_cons] at hq
        constructor
        · intro hx
          rcases hq.1 (.inr hx) with rfl | h
          · have := h1.1 q hx; omega
          · exact h
        · intro hy
          rcases hq.2 (.inr hy) with rfl | h
          · have := h2.1 q hy; omega
          · exact h
  exact sorted hx.1 hy.1 fun q => ⟨key hx hy q, key hy hx q⟩

end Wm

/-
  The Hamming code of 15 bits as plain functions; its laws, which the kernel reckons over all words. No program in sight.
-/
set_option linter.unusedVariables false
set_option linter.unusedSimpArgs false
namespace Wm

/-- The exclusive or of the first k positions whose bit is 1. -/
def hsum (w : Nat) : Nat → Nat
  | 0 => 0
  | k + 1 => if w / 2 ^ k % 2 = 1 then hsum w k ^^^ (k + 1) else hsum w k
/-- Is a position one of the parity bits? -/
def hpar (k : Nat) : Bool := Nat.land k (k - 1) == 0
/-- The data laid out: the word and the data that are left after k positions. -/
def hlay (d : Nat) : Nat → Nat × Nat
  | 0 => (0, d)
  | k + 1 => if hpar (k + 1) then hlay d k else ((hlay d k).1 ||| ((hlay d k).2 % 2 * 2 ^ k), (hlay d k).2 / 2)
/-- The parity bits set: j of them. -/
def hset (s w : Nat) : Nat → Nat
  | 0 => w
  | j + 1 => if Nat.land s (2 ^ j) = 0 then hset s w j else hset s w j ||| 2 ^ (2 ^ j - 1)
def hput (d : Nat) : Nat := hset (hsum (hlay d 15).1 15) (hlay d 15).1 4
/-- The data read off a word: the data and how many bits, after k positions. -/
def hread (w : Nat) : Nat → Nat × Nat
  | 0 => (0, 0)
  | k + 1 => if hpar (k + 1) then hread w k else ((hread w k).1 ||| (w / 2 ^ k % 2 * 2 ^ (hread w k).2), (hread w k).2 + 1)
def hfix (w : Nat) : Nat := if hsum w 15 = 0 then w else w ^^^ 2 ^ (hsum w 15 - 1)
def hget (w : Nat) : Nat := (hread (hfix w) 15).1

/-- How many bits of 16 are 1. -/
def ones16 (w : Nat) : Nat → Nat
  | 0 => 0
  | k + 1 => ones16 w k + w / 2 ^ k % 2

/-- The word by its data's bits. -/
def hlin (d : Nat) : Nat → Nat
  | 0 => 0
  | k + 1 => if d / 2 ^ k % 2 = 1 then hlin d k ^^^ hput (2 ^ k) else hlin d k

theorem c_lin : (List.range 2048).all (fun d => Nat.beq (hput d) (hlin d 11)) = true := by decide +kernel
theorem c_weight : (List.range 2047).all (fun d => Nat.ble 3 (ones16 (hput (d + 1)) 16)) = true := by decide +kernel
theorem c_sum : (List.range 2048).all (fun d => Nat.beq (hsum (hput d) 15) 0 && Nat.blt (hput d) 32768 && Nat.beq (hread (hput d) 15).1 d) = true := by decide +kernel
theorem c_all : (List.range 32768).all (fun c => !(Nat.beq (hsum c 15) 0) || (Nat.beq (hput (hread c 15).1) c && Nat.blt (hread c 15).1 2048)) = true := by decide +kernel
theorem c_bits : (List.range 15).all (fun k => Nat.beq (hsum (2 ^ k) 15) (k + 1)) = true := by decide +kernel

theorem xor_bit (a b k : Nat) : ((a ^^^ b) / 2 ^ k % 2 = 1) ↔ ¬ ((a / 2 ^ k % 2 = 1) ↔ (b / 2 ^ k % 2 = 1)) := by
  rw [Nat.xor_div_two_pow, Nat.xor_mod_two_eq_one]
theorem hx1 (o p x : Nat) : (o ^^^ x) ^^^ p = (o ^^^ p) ^^^ x := by rw [Nat.xor_assoc, Nat.xor_comm x p, ← Nat.xor_assoc]
theorem hx2 (o p x : Nat) : (o ^^^ x) ^^^ (p ^^^ x) = o ^^^ p := by
  rw [Nat.xor_comm p x, ← Nat.xor_assoc, Nat.xor_assoc o x x, Nat.xor_self, Nat.xor_zero]
theorem hsum_xor (a b : Nat) : ∀ k, hsum (a ^^^ b) k = hsum a k ^^^ hsum b k
  | 0 => by simp [hsum]
  | k + 1 => by
    simp only [hsum, hsum_xor a b k, xor_bit]
    by_cases ha : a / 2 ^ k % 2 = 1 <;> by_cases hb : b / 2 ^ k % 2 = 1 <;> simp only [ha, hb, not_true_eq_false, not_false_eq_true, if_true, if_false, iff_self, iff_false, iff_true]
    · rw [hx2]
    · rw [hx1]
    · rw [Nat.xor_assoc]
theorem hlin_xor (a b : Nat) : ∀ k, hlin (a ^^^ b) k = hlin a k ^^^ hlin b k
  | 0 => by simp [hlin]
  | k + 1 => by
    simp only [hlin, hlin_xor a b k, xor_bit]
    by_cases ha : a / 2 ^ k % 2 = 1 <;> by_cases hb : b / 2 ^ k % 2 = 1 <;> simp only [ha, hb, not_true_eq_false, not_false_eq_true, if_true, if_false, iff_self, iff_false, iff_true]
    · rw [hx2]
    · rw [hx1]
    · rw [Nat.xor_assoc]
theorem hput_lin {d : Nat} (h : d < 2048) : hput d = hlin d 11 := Nat.eq_of_beq_eq_true (List.all_eq_true.1 c_lin d (List.mem_range.2 h))
theorem hput_xor {a b : Nat} (ha : a < 2048) (hb : b < 2048) : hput (a ^^^ b) = hput a ^^^ hput b := by
  rw [hput_lin (Nat.xor_lt_two_pow (n := 11) ha hb), hput_lin ha, hput_lin hb, hlin_xor]
theorem hput_weight {d : Nat} (h0 : d ≠ 0) (h : d < 2048) : 3 ≤ ones16 (hput d) 16 := by
  have := List.all_eq_true.1 c_weight (d - 1) (List.mem_range.2 (by omega))
  rw [show d - 1 + 1 = d by omega] at this
  exact Nat.le_of_ble_eq_true this
theorem hput_spec {d : Nat} (h : d < 2048) : hsum (hput d) 15 = 0 ∧ hput d < 32768 ∧ (hread (hput d) 15).1 = d := by
  have := List.all_eq_true.1 c_sum d (List.mem_range.2 h)
  simp only [Bool.and_eq_true] at this
  exact ⟨Nat.eq_of_beq_eq_true this.1.1, by have := this.1.2; simp [Nat.blt] at this; omega, Nat.eq_of_beq_eq_true this.2⟩
theorem hread_spec {c : Nat} (h : c < 32768) (h0 : hsum c 15 = 0) : hput (hread c 15).1 = c ∧ (hread c 15).1 < 2048 := by
  have := List.all_eq_true.1 c_all c (List.mem_range.2 h)
  simp only [h0, Nat.beq_refl, Bool.not_true, Bool.false_or, Bool.and_eq_true] at this
  exact ⟨Nat.eq_of_beq_eq_true this.1, by have := this.2; simp [Nat.blt] at this; omega⟩
theorem hsum_bit {k : Nat} (h : k < 15) : hsum (2 ^ k) 15 = k + 1 := Nat.eq_of_beq_eq_true (List.all_eq_true.1 c_bits k (List.mem_range.2 h))
theorem hsum_lt (w : Nat) : ∀ k, k ≤ 15 → hsum w k < 16
  | 0, _ => by simp [hsum]
  | k + 1, h => by
    have := hsum_lt w k (by omega)
    simp only [hsum]
    split
    · exact Nat.xor_lt_two_pow (n := 4) this (by omega)
    · exact this
theorem bit_lt {k : Nat} (h : k < 15) : 2 ^ k < 32768 := Nat.pow_lt_pow_right (by omega) (show k < 15 from h)
theorem hfix_spec {w : Nat} (h : w < 32768) : hfix w < 32768 ∧ hsum (hfix w) 15 = 0 := by
  unfold hfix
  split
  · exact ⟨h, by assumption⟩
  · have hl := hsum_lt w 15 (by omega)
    refine ⟨Nat.xor_lt_two_pow (n := 15) h (bit_lt (by omega)), ?_⟩
    rw [hsum_xor, hsum_bit (by omega), show hsum w 15 - 1 + 1 = hsum w 15 by omega, Nat.xor_self]
/-- One bit turned. -/
theorem hone {d k : Nat} (hd : d < 2048) (hk : k < 15) : hsum (hput d ^^^ 2 ^ k) 15 = k + 1 ∧ hput d ^^^ 2 ^ k < 32768 ∧ hget (hput d ^^^ 2 ^ k) = d := by
  obtain ⟨h1, h2, h3⟩ := hput_spec hd
  have hs : hsum (hput d ^^^ 2 ^ k) 15 = k + 1 := by rw [hsum_xor, h1, hsum_bit hk, Nat.zero_xor]
  refine ⟨hs, Nat.xor_lt_two_pow (n := 15) h2 (bit_lt hk), ?_⟩
  unfold hget hfix
  rw [hs, if_neg (by omega), Nat.add_sub_cancel, Nat.xor_assoc, Nat.xor_self, Nat.xor_zero, h3]
theorem hnone {d : Nat} (hd : d < 2048) : hget (hput d) = d := by
  obtain ⟨h1, h2, h3⟩ := hput_spec hd
  unfold hget hfix
  rw [if_pos h1, h3]
theorem ones16_le (w : Nat) : ∀ k, ones16 w k ≤ k
  | 0 => by simp [ones16]
  | k + 1 => by have := ones16_le w k; simp only [ones16]; omega
theorem mod_mul_lt (b k : Nat) : b % 2 * 2 ^ k < 2 ^ (k + 1) := by
  have h1 : b % 2 ≤ 1 := by omega
  have h2 : 0 < 2 ^ k := Nat.pow_pos (by omega)
  have h3 := Nat.mul_le_mul_right (2 ^ k) h1
  rw [Nat.pow_succ]
  omega
theorem hlay_lt (d : Nat) : ∀ k, (hlay d k).1 < 2 ^ k ∧ (hlay d k).2 ≤ d
  | 0 => by simp [hlay]
  | k + 1 => by
    have h := hlay_lt d k
    have h2 : 2 ^ k < 2 ^ (k + 1) := Nat.pow_lt_pow_right (by omega) (by omega)
    simp only [hlay]
    split
    · exact ⟨by omega, h.2⟩
    · refine ⟨Nat.or_lt_two_pow (by omega) (mod_mul_lt _ k), ?_⟩
      have := h.2
      simp only
      omega
theorem hset_lt (s w : Nat) (hw : w < 32768) : ∀ j, j ≤ 4 → hset s w j < 32768
  | 0, _ => hw
  | j + 1, h => by
    have ih := hset_lt s w hw j (by omega)
    simp only [hset]
    split
    · exact ih
    · refine Nat.or_lt_two_pow (n := 15) ih ?_
      obtain rfl | rfl | rfl | rfl : j = 0 ∨ j = 1 ∨ j = 2 ∨ j = 3 := by omega
      all_goals decide
theorem hread_lt (w : Nat) : ∀ k, (hread w k).1 < 2 ^ (hread w k).2 ∧ (hread w k).2 ≤ k
  | 0 => by simp [hread]
  | k + 1 => by
    have h := hread_lt w k
    simp only [hread]
    split
    · exact ⟨h.1, by omega⟩
    · have h2 : 2 ^ (hread w k).2 < 2 ^ ((hread w k).2 + 1) := Nat.pow_lt_pow_right (by omega) (by omega)
      exact ⟨Nat.or_lt_two_pow (n := (hread w k).2 + 1) (by omega) (mod_mul_lt _ _), by simp only; omega⟩

end Wm

/-
  Plain: binomial coefficients modulo a prime (Lucas), and how often the prime divides them (Legendre, Kummer). No program in sight.
-/
import Derived.Test.YtdcpijodoppncaaBinom0
import Derived.Test.YtdcpijodoppncaaFactor0
set_option linter.unusedVariables false
set_option linter.unusedSimpArgs false
namespace Wm

theorem C_mul : ∀ n k, C (n + 1) (k + 1) * (k + 1) = C n k * (n + 1)
  | 0, k => by
    cases k with
    | zero => rfl
    | succ k => rw [C_gt 1 (k + 1 + 1) (by omega), C_gt 0 (k + 1) (by omega)]; simp
  | n + 1, 0 => by
    have h := C_mul n 0
    rw [C_succ, C_zero] at *
    rw [C_succ, C_zero] at *
    omega
  | n + 1, k + 1 => by
    have h1 := C_mul n k
    have h2 := C_mul n (k + 1)
    rw [C_succ (n + 1) (k + 1)]
    have e := C_succ n k
    generalize C (n + 1) (k + 1) = a at *
    generalize C (n + 1) (k + 1 + 1) = b at *
    generalize C n k = c at *
    generalize C n (k + 1) = d at *
    subst e
    simp only [Nat.add_mul, Nat.mul_add, Nat.mul_one, Nat.one_mul] at *
    omega
/-- From one coefficient to the next. -/
theorem C_next (n k : Nat) : C n (k + 1) * (k + 1) = C n k * (n - k) := by
  rcases Nat.lt_or_ge n k with h | h
  · rw [C_gt n k h, C_gt n (k + 1) (by omega)]; simp
  · have h1 := C_mul n k
    rw [C_succ, Nat.add_mul] at h1
    obtain ⟨d, rfl⟩ := Nat.exists_eq_add_of_le h
    rw [show k + d - k = d by omega]
    have : C (k + d) k * (k + d + 1) = C (k + d) k * (k + 1) + C (k + d) k * d := by rw [← Nat.mul_add]; congr 1; omega
    omega

theorem C_prime {p k : Nat} (hp : Prime p) (h0 : 0 < k) (hk : k < p) : p ∣ C p k := by
  obtain ⟨q, rfl⟩ : ∃ q, p = q + 1 := ⟨p - 1, by omega⟩
  obtain ⟨j, rfl⟩ : ∃ j, k = j + 1 := ⟨k - 1, by omega⟩
  have h := C_mul q j
  have hd : q + 1 ∣ C (q + 1) (j + 1) * (j + 1) := by rw [h]; exact Nat.dvd_mul_left _ _
  rcases hp.dvd_mul hd with h | h
  · exact h
  · have := Nat.le_of_dvd (by omega) h; omega

/-! ### Lucas -/
def Lu (p n k : Nat) : Nat := C (n / p) (k / p) * C (n % p) (k % p)
theorem step_div {p n : Nat} (hp : 0 < p) : (n % p + 1 < p ∧ (n + 1) / p = n / p ∧ (n + 1) % p = n % p + 1) ∨ (n % p + 1 = p ∧ (n + 1) / p = n / p + 1 ∧ (n + 1) % p = 0) := by
  have e := Nat.div_add_mod n p
  have hl := Nat.mod_lt n hp
  rcases Nat.lt_or_ge (n % p + 1) p with h | h
  · refine .inl ⟨h, ?_, ?_⟩
    · rw [show n + 1 = n % p + 1 + p * (n / p) by omega, Nat.add_mul_div_left _ _ hp, Nat.div_eq_of_lt h]; omega
    · rw [show n + 1 = n % p + 1 + p * (n / p) by omega, Nat.add_mul_mod_self_left, Nat.mod_eq_of_lt h]
  · have h' : n % p + 1 = p := by omega
    have e2 : n + 1 = p * (n / p + 1) := by rw [Nat.mul_add]; omega
    refine .inr ⟨h', ?_, ?_⟩
    · rw [e2, Nat.mul_div_cancel_left _ hp]
    · rw [e2, Nat.mul_mod_right]
theorem lucas {p : Nat} (hp : Prime p) : ∀ n k, C n k % p = Lu p n k % p
  | 0, 0 => by simp [Lu, C]
  | 0, k + 1 => by
    have h0 : 0 < p := hp.pos
    rw [C_gt 0 (k + 1) (by omega)]
    unfold Lu
    simp only [Nat.zero_div, Nat.zero_mod]
    by_cases h : (k + 1) / p = 0
    · have hlt : k + 1 < p := by
        have e := Nat.div_add_mod (k + 1) p
        have := Nat.mod_lt (k + 1) h0
        rw [h] at e; omega
      rw [C_gt 0 ((k + 1) % p) (by rw [Nat.mod_eq_of_lt hlt]; omega)]; simp
    · rw [C_gt 0 ((k + 1) / p) (Nat.pos_of_ne_zero h)]; simp
  | n + 1, 0 => by simp [Lu, C_zero]
  | n + 1, k + 1 => by
    have h0 : 0 < p := hp.pos
    have ih1 := lucas hp n k
    have ih2 := lucas hp n (k + 1)
    rw [C_succ, Nat.add_mod, ih1, ih2, ← Nat.add_mod]
    unfold Lu
    have hnl := Nat.mod_lt n h0
    have hkl := Nat.mod_lt k h0
    rcases step_div (n := n) h0 with ⟨a1, a2, a3⟩ | ⟨a1, a2, a3⟩ <;> rcases step_div (n := k) h0 with ⟨b1, b2, b3⟩ | ⟨b1, b2, b3⟩ <;> rw [a2, a3, b2, b3]
    · rw [C_succ, Nat.mul_add]
    · rw [C_gt (n % p) (k % p) (by omega), C_zero, C_zero]; simp
    · rw [C_gt 0 (k % p + 1) (by omega), Nat.mul_zero, ← Nat.mul_add, ← C_succ, a1, Nat.mul_mod, Nat.mod_eq_zero_of_dvd (C_prime hp (by omega) b1)]
      simp
    · rw [show C (n % p) (k % p) = 1 by rw [show k % p = n % p by omega, C_self], C_zero, C_zero, C_succ]; simp

/-- What Mod computes. -/
def luc (p n k : Nat) : Nat := if h : p ≤ 1 ∨ n = 0 then C n k % p else C (n % p) (k % p) * luc p (n / p) (k / p) % p
termination_by n
decreasing_by exact Nat.div_lt_self (by omega) (by omega)
theorem luc_zero {p k : Nat} : luc p 0 k = C 0 k % p := by rw [luc]; simp
theorem luc_step {p n k : Nat} (hp : 1 < p) (hn : 0 < n) : luc p n k = C (n % p) (k % p) * luc p (n / p) (k / p) % p := by
  conv => lhs; rw [luc]
  rw [dif_neg (by omega)]
theorem luc_eq {p : Nat} (hp : Prime p) : ∀ n k, luc p n k = C n k % p := by
  intro n
  induction n using Nat.strongRecOn with
  | ind n ih =>
    intro k
    rcases Nat.eq_zero_or_pos n with h | h
    · subst h; exact luc_zero
    · rw [luc_step hp.1 h, ih _ (Nat.div_lt_self h hp.1), lucas hp n k, Lu, Nat.mul_mod_mod, Nat.mul_comm]

/-! ### Legendre and Kummer -/
def fact : Nat → Nat
  | 0 => 1
  | n + 1 => (n + 1) * fact n
theorem fact_pos : ∀ n, 0 < fact n
  | 0 => by decide
  | n + 1 => Nat.mul_pos (by omega) (fact_pos n)
theorem C_fact : ∀ n k, k ≤ n → C n k * (fact k * fact (n - k)) = fact n
  | n, 0, _ => by simp [C_zero, fact]
  | n, k + 1, h => by
    have ih := C_fact n k (by omega)
    have e := C_next n k
    obtain ⟨d, hd⟩ : ∃ d, n - k = d + 1 := ⟨n - k - 1, by omega⟩
    rw [show n - (k + 1) = d by omega]
    rw [hd] at ih e
    simp only [fact] at ih ⊢
    calc C n (k + 1) * ((k + 1) * fact k * fact d) = C n (k + 1) * (k + 1) * (fact k * fact d) := by ac_rfl
      _ = C n k * (d + 1) * (fact k * fact d) := by rw [e]
      _ = C n k * (fact k * ((d + 1) * fact d)) := by ac_rfl
      _ = fact n := ih
theorem C_pos {n k : Nat} (h : k ≤ n) : 0 < C n k := Nat.pos_of_ne_zero fun e => by
  have := C_fact n k h
  rw [e, Nat.zero_mul] at this
  have := fact_pos n
  omega

def expo (p n : Nat) : Nat := if h : p ≤ 1 ∨ n = 0 then 0 else n / p + expo p (n / p)
termination_by n
decreasing_by exact Nat.div_lt_self (by omega) (by omega)
theorem expo_zero {p : Nat} : expo p 0 = 0 := by rw [expo]; simp
theorem expo_step {p n : Nat} (hp : 1 < p) (hn : 0 < n) : expo p n = n / p + expo p (n / p) := by
  conv => lhs; rw [expo]
  rw [dif_neg (by omega)]
theorem expo_any {p n : Nat} (hp : 1 < p) : expo p n = n / p + expo p (n / p) := by
  rcases Nat.eq_zero_or_pos n with h | h
  · subst h; rw [Nat.zero_div, expo_zero]
  · exact expo_step hp h
theorem expo_le {p : Nat} (hp : 1 < p) : ∀ n, expo p n ≤ n := by
  intro n
  induction n using Nat.strongRecOn with
  | ind n ih =>
    rcases Nat.eq_zero_or_pos n with h | h
    · subst h; rw [expo_zero]; omega
    · have := ih _ (Nat.div_lt_self h hp)
      rw [expo_step hp h]
      have e := Nat.div_add_mod n p
      have : 2 * (n / p) ≤ p * (n / p) := Nat.mul_le_mul_right _ hp
      omega
theorem expo_add {p : Nat} (hp : 1 < p) : ∀ a b, expo p a + expo p b ≤ expo p (a + b) := by
  intro a
  induction a using Nat.strongRecOn with
  | ind a ih =>
    intro b
    rcases Nat.eq_zero_or_pos a with h | h
    · subst h; rw [expo_zero]; simp
    · rw [expo_any (n := b) hp, expo_any (n := a) hp, expo_any (n := a + b) hp]
      have h1 := ih _ (Nat.div_lt_self h hp) (b / p)
      have h2 : a / p + b / p ≤ (a + b) / p := by
        rw [Nat.le_div_iff_mul_le (by omega), Nat.add_mul]
        have := Nat.div_mul_le_self a p
        have := Nat.div_mul_le_self b p
        omega
      have h3 : expo p (a / p + b / p) ≤ expo p ((a + b) / p) := by
        obtain ⟨d, hd⟩ := Nat.exists_eq_add_of_le h2
        rw [hd]
        rcases Nat.eq_zero_or_pos d with h0 | h0
        · rw [h0]; exact Nat.le_refl _
        · rcases Nat.lt_or_ge (a / p + b / p) a with hl | hl
          · have := ih _ hl d
            omega
          · have hm : ∀ x y, x ≤ y → expo p x ≤ expo p y := by
              intro x
              induction x using Nat.strongRecOn with
              | ind x ihx =>
                intro y hxy
                rcases Nat.eq_zero_or_pos x with hx | hx
                · subst hx; rw [expo_zero]; omega
                · rw [expo_any (n := x) hp, expo_any (n := y) hp]
                  have := Nat.div_le_div_right (c := p) hxy
                  have := ihx _ (Nat.div_lt_self hx hp) _ this
                  omega
            exact hm _ _ (by omega)
      omega
theorem val_zero {p n : Nat} (h : ¬ p ∣ n) : Val p 0 n := ⟨by simp, by simpa using h⟩
theorem val_up {p k n : Nat} (hp : 0 < p) (h : Val p k n) : Val p (k + 1) (p * n) := by
  obtain ⟨h1, h2⟩ := h
  refine ⟨?_, fun hd => h2 ?_⟩
  · rw [Nat.pow_succ, Nat.mul_comm]; exact Nat.mul_dvd_mul_left p h1
  · rw [Nat.pow_succ, Nat.mul_comm] at hd
    exact Nat.dvd_of_mul_dvd_mul_left hp hd
theorem val_ex {p : Nat} (hp : 1 < p) : ∀ n, 0 < n → ∃ k, Val p k n ∧ expo p n = expo p (n - 1) + k := by
  intro n
  induction n using Nat.strongRecOn with
  | ind n ih =>
    intro hn
    have hdm := Nat.div_add_mod n p
    have hml := Nat.mod_lt n (show p > 0 by omega)
    rcases step_div (p := p) (n := n - 1) (by omega) with ⟨a1, a2, a3⟩ | ⟨a1, a2, a3⟩
    · rw [Nat.sub_add_cancel hn] at a2 a3
      refine ⟨0, val_zero fun hd => ?_, ?_⟩
      · have := Nat.mod_eq_zero_of_dvd hd; omega
      · rw [expo_any (n := n) hp, expo_any (n := n - 1) hp, a2]; omega
    · rw [Nat.sub_add_cancel hn] at a2 a3
      obtain ⟨k, h1, h2⟩ := ih (n / p) (Nat.div_lt_self hn hp) (by rw [a2]; exact Nat.succ_pos _)
      refine ⟨k + 1, ?_, ?_⟩
      · have : n = p * (n / p) := by omega
        rw [this]
        exact val_up (by omega) h1
      · rw [expo_any (n := n) hp, expo_any (n := n - 1) hp, h2, a2]
        generalize (n - 1) / p = z
        rw [show z + 1 - 1 = z by omega]
        omega
theorem val_fact {p : Nat} (hp : Prime p) : ∀ n, Val p (expo p n) (fact n)
  | 0 => by rw [expo_zero]; exact val_one hp.1
  | n + 1 => by
    obtain ⟨k, h1, h2⟩ := val_ex hp.1 (n + 1) (by omega)
    have ih := val_fact hp n
    have := h1.mul hp ih
    rw [h2, show n + 1 - 1 = n by omega, Nat.add_comm]
    exact this
theorem val_some {p : Nat} (hp : 1 < p) {n : Nat} (hn : 0 < n) : ∃ k, Val p k n := by
  obtain ⟨k, h, -⟩ := val_ex hp n hn
  exact ⟨k, h⟩
/-- LEGENDRE: the exponent of the coefficient. -/
theorem val_C {p n k : Nat} (hp : Prime p) (hk : k ≤ n) : Val p (expo p n - expo p k - expo p (n - k)) (C n k) := by
  obtain ⟨j, hj⟩ := val_some hp.1 (C_pos hk)
  have h := (hj.mul hp ((val_fact hp k).mul hp (val_fact hp (n - k))))
  rw [C_fact n k hk] at h
  have e := Val.unique h (val_fact hp n)
  rw [show expo p n - expo p k - expo p (n - k) = j by omega]
  exact hj
/-- KUMMER: it is positive just where the coefficient is 0 modulo p. -/
theorem kummer {p n k : Nat} (hp : Prime p) (hk : k ≤ n) : 0 < expo p n - expo p k - expo p (n - k) ↔ C n k % p = 0 := by
  have h := val_C hp hk
  generalize expo p n - expo p k - expo p (n - k) = t at *
  constructor
  · intro h0
    obtain ⟨s, rfl⟩ : ∃ s, t = s + 1 := ⟨t - 1, by omega⟩
    exact Nat.mod_eq_zero_of_dvd (Nat.dvd_trans (Nat.dvd_mul_left p (p ^ s)) (by rw [← Nat.pow_succ]; exact h.1))
  · intro h0
    rcases Nat.eq_zero_or_pos t with h1 | h1
    · subst h1
      exact absurd (Nat.dvd_of_mod_eq_zero h0) (by simpa using h.2)
    · exact h1

/-- How often, counted. -/
theorem val_div {p k n : Nat} (hp : 1 < p) (hn : 0 < n) (h : Val p k n) (hd : n % p = 0) : ∃ j, k = j + 1 ∧ Val p j (n / p) := by
  obtain ⟨j, hj⟩ := val_some hp (n := n / p) (Nat.div_pos (Nat.le_of_dvd hn (Nat.dvd_of_mod_eq_zero hd)) (by omega))
  refine ⟨j, ?_, hj⟩
  have := val_up (by omega) hj
  rw [Nat.mul_div_cancel' (Nat.dvd_of_mod_eq_zero hd)] at this
  exact h.unique this

/-- The coefficients of small numbers, one by one. -/
theorem small_next {p n i inv : Nat} (hinv : (i + 1) * inv % p = 1 % p) : (C n i % p) * (n - i) % p * inv % p = C n (i + 1) % p := by
  rw [Nat.mod_mul_mod, Nat.mul_assoc (C n i % p), Nat.mod_mul_mod, ← Nat.mul_assoc, ← C_next, Nat.mul_assoc, Nat.mul_mod, hinv, ← Nat.mul_mod, Nat.mul_one]
end Wm

/-
  Plain facts on primes: trial division, Euclid's lemma, a prime between n and 2n for the n that are asked, Wilson's theorem for the n that are asked. No program in sight.
-/
set_option linter.unusedVariables false
set_option linter.unusedSimpArgs false
namespace Wm

def Prime (p : Nat) : Prop := 1 < p ∧ ∀ d, d ∣ p → d = 1 ∨ d = p

noncomputable def isp (n : Nat) : Bool := @decide (Prime n) (Classical.propDecidable _)
theorem isp_true {n : Nat} (h : Prime n) : isp n = true := by simp [isp, h]
theorem isp_false {n : Nat} (h : ¬ Prime n) : isp n = false := by simp [isp, h]
theorem isp_iff {n : Nat} : isp n = true ↔ Prime n := by simp [isp]

theorem Prime.coprime {p a : Nat} (h : Prime p) (ha : ¬ p ∣ a) : Nat.Coprime p a := by
  rcases h.2 _ (Nat.gcd_dvd_left p a) with e | e
  · exact e
  · exact absurd (e ▸ Nat.gcd_dvd_right p a) ha
theorem Prime.dvd_mul {p a b : Nat} (h : Prime p) (hd : p ∣ a * b) : p ∣ a ∨ p ∣ b := by
  by_cases ha : p ∣ a
  · exact .inl ha
  · exact .inr ((h.coprime ha).dvd_of_dvd_mul_left hd)
theorem Prime.pos {p : Nat} (h : Prime p) : 0 < p := by have := h.1; omega

theorem prime_of_trial {n d : Nat} (h1 : 1 < n) (hd : n < d * d) (h : ∀ e, 2 ≤ e → e < d → ¬ e ∣ n) : Prime n := by
  refine ⟨h1, fun e he => ?_⟩
  obtain ⟨f, hf⟩ := he
  have he0 : 0 < e := Nat.pos_of_ne_zero (fun h0 => by subst h0; simp at hf; omega)
  have hf0 : 0 < f := Nat.pos_of_ne_zero (fun h0 => by subst h0; simp at hf; omega)
  by_cases h1 : e = 1
  · exact .inl h1
  · right
    have hed : d ≤ e := by
      rcases Nat.lt_or_ge e d with h' | h'
      · exact absurd ⟨f, hf⟩ (h e (by omega) h')
      · exact h'
    have hfd : f < d := by
      rcases Nat.lt_or_ge f d with h' | h'
      · exact h'
      · have : d * d ≤ e * f := Nat.mul_le_mul hed h'
        omega
    by_cases hf1 : f = 1
    · subst hf1; omega
    · exact absurd ⟨e, by rw [Nat.mul_comm]; exact hf⟩ (h f (by omega) hfd)
theorem not_prime_of_dvd {n e : Nat} (h2 : 2 ≤ e) (hlt : e < n) (hd : e ∣ n) : ¬ Prime n := fun h => by
  rcases h.2 e hd with h' | h' <;> omega
theorem exists_dvd_of_not_prime {n : Nat} (h1 : 1 < n) (h : ¬ Prime n) : ∃ d, 1 < d ∧ d < n ∧ d ∣ n := by
  apply Classical.byContradiction
  intro hn
  refine h ⟨h1, fun d hd => ?_⟩
  have hle := Nat.le_of_dvd (by omega) hd
  have hpos : 0 < d := Nat.pos_of_dvd_of_pos hd (by omega)
  by_cases h1 : d = 1
  · exact .inl h1
  · by_cases h2 : d = n
    · exact .inr h2
    · exact absurd ⟨d, by omega, by omega, hd⟩ hn

/-- Trial division as the kernel can reckon it. -/
def nodiv (n : Nat) : Nat → Nat → Bool
  | 0, _ => true
  | f + 1, d => n % d != 0 && nodiv n f (d + 1)
theorem nodiv_spec {n : Nat} : ∀ {f d : Nat}, nodiv n f d = true → ∀ e, d ≤ e → e < d + f → ¬ e ∣ n
  | 0, _, _, e, h1, h2 => by omega
  | f + 1, d, h, e, h1, h2 => by
    simp only [nodiv, Bool.and_eq_true, bne_iff_ne] at h
    by_cases he : e = d
    · subst he; intro hd; exact h.1 (Nat.mod_eq_zero_of_dvd hd)
    · exact nodiv_spec h.2 e (by omega) (by omega)
def pchk (n r : Nat) : Bool := decide (1 < n) && decide (n < (2 + r) * (2 + r)) && nodiv n r 2
theorem pchk_spec {n r : Nat} (h : pchk n r = true) : Prime n := by
  simp only [pchk, Bool.and_eq_true, decide_eq_true_eq] at h
  exact prime_of_trial h.1.1 h.1.2 (fun e h1 h2 => nodiv_spec h.2 e h1 h2)
theorem nodiv_of {n : Nat} : ∀ {f d : Nat}, (∀ e, d ≤ e → e < d + f → ¬ e ∣ n) → nodiv n f d = true
  | 0, _, _ => rfl
  | f + 1, d, h => by
    simp only [nodiv, Bool.and_eq_true, bne_iff_ne]
    exact ⟨fun h0 => h d (Nat.le_refl _) (by omega) (Nat.dvd_of_mod_eq_zero h0), nodiv_of fun e h1 h2 => h e (by omega) (by omega)⟩
theorem Prime.nodiv {n f : Nat} (h : Prime n) (hf : f + 2 ≤ n) : nodiv n f 2 = true :=
  nodiv_of fun e h1 h2 hd => by rcases h.2 e hd with h' | h' <;> omega

theorem prime_97 : Prime 97 := pchk_spec (r := 8) (by decide +kernel)
theorem prime_999983 : Prime 999983 := pchk_spec (r := 999) (by decide +kernel)
theorem not_prime_91 : ¬ Prime 91 := not_prime_of_dvd (e := 7) (by omega) (by omega) (by decide)

theorem bertrand {n : Nat} (h1 : 2 ≤ n) (h2 : n ≤ 500000) : ∃ p, Prime p ∧ n < p ∧ p < 2 * n := by
  have step : ∀ q p r : Nat, pchk p r = true → p < 2 * q → q ≤ n → n < p → ∃ p, Prime p ∧ n < p ∧ p < 2 * n := fun q p r hp h3 h4 h5 => ⟨p, pchk_spec hp, h5, by omega⟩
  by_cases a1 : n < 3
  · exact step 2 3 0 (by decide +kernel) (by omega) (by omega) a1
  by_cases a2 : n < 5
  · exact step 3 5 1 (by decide +kernel) (by omega) (by omega) a2
  by_cases a3 : n < 7
  · exact step 5 7 1 (by decide +kernel) (by omega) (by omega) a3
  by_cases a4 : n < 13
  · exact step 7 13 2 (by decide +kernel) (by omega) (by omega) a4
  by_cases a5 : n < 23
  · exact step 13 23 3 (by decide +kernel) (by omega) (by omega) a5
  by_cases a6 : n < 43
  · exact step 23 43 5 (by decide +kernel) (by omega) (by omega) a6
  by_cases a7 : n < 83
  · exact step 43 83 8 (by decide +kernel) (by omega) (by omega) a7
  by_cases a8 : n < 163
  · exact step 83 163 11 (by decide +kernel) (by omega) (by omega) a8
  by_cases a9 : n < 317
  · exact step 163 317 16 (by decide +kernel) (by omega) (by omega) a9
  by_cases a10 : n < 631
  · exact step 317 631 24 (by decide +kernel) (by omega) (by omega) a10
  by_cases a11 : n < 1259
  · exact step 631 1259 34 (by decide +kernel) (by omega) (by omega) a11
  by_cases a12 : n < 2503
  · exact step 1259 2503 49 (by decide +kernel) (by omega) (by omega) a12
  by_cases a13 : n < 5003
  · exact step 2503 5003 69 (by decide +kernel) (by omega) (by omega) a13
  by_cases a14 : n < 9973
  · exact step 5003 9973 98 (by decide +kernel) (by omega) (by omega) a14
  by_cases a15 : n < 19937
  · exact step 9973 19937 140 (by decide +kernel) (by omega) (by omega) a15
  by_cases a16 : n < 39869
  · exact step 19937 39869 198 (by decide +kernel) (by omega) (by omega) a16
  by_cases a17 : n < 79699
  · exact step 39869 79699 281 (by decide +kernel) (by omega) (by omega) a17
  by_cases a18 : n < 159389
  · exact step 79699 159389 398 (by decide +kernel) (by omega) (by omega) a18
  by_cases a19 : n < 318751
  · exact step 159389 318751 563 (by decide +kernel) (by omega) (by omega) a19
  by_cases a20 : n < 637499
  · exact step 318751 637499 797 (by decide +kernel) (by omega) (by omega) a20
  omega

/-- The product of 2, 3, .. j + 1, left by n. -/
def wseq (n : Nat) : Nat → Nat
  | 0 => 1
  | j + 1 => wseq n j * (j + 2) % n
theorem wseq_dvd {n d : Nat} (hd : d ∣ n) (h1 : 1 < d) : ∀ j, d ≤ j + 1 → d ∣ wseq n j
  | 0, h => by omega
  | j + 1, h => by
    simp only [wseq]
    rw [Nat.dvd_mod_iff hd]
    by_cases he : d = j + 2
    · rw [he]; exact Nat.dvd_mul_left _ _
    · exact Nat.dvd_mul_right_of_dvd (wseq_dvd hd h1 j (by omega)) _
theorem wseq_lt {n : Nat} (hn : 2 ≤ n) (j : Nat) : wseq n j < n := by
  cases j with
  | zero => simp only [wseq]; omega
  | succ j => simp only [wseq]; exact Nat.mod_lt _ (by omega)
def wchk (n : Nat) : Bool := !(pchk n (min 43 (n - 2))) || wseq n (n - 2) == n - 1
theorem wchk_all : (List.range 2002).all wchk = true := by decide +kernel
theorem wilson {n : Nat} (h1 : 2 ≤ n) (h2 : n ≤ 2001) : isp n = decide (wseq n (n - 2) = n - 1) := by
  by_cases hp : Prime n
  · rw [isp_true hp]
    have h := List.all_eq_true.1 wchk_all n (List.mem_range.2 (by omega))
    simp only [wchk, Bool.or_eq_true, Bool.not_eq_true', beq_iff_eq] at h
    rcases h with h | h
    · exfalso
      have : pchk n (min 43 (n - 2)) = true := by
        simp only [pchk, Bool.and_eq_true, decide_eq_true_eq]
        refine ⟨⟨hp.1, ?_⟩, hp.nodiv (by omega)⟩
        rcases Nat.lt_or_ge n 45 with h' | h'
        · rw [Nat.min_eq_right (by omega), show 2 + (n - 2) = n by omega]
          exact Nat.lt_mul_self_iff.2 h1
        · rw [Nat.min_eq_left (by omega)]; omega
      simp [this] at h
    · simp [h]
  · rw [isp_false hp]
    obtain ⟨d, d1, d2, d3⟩ := exists_dvd_of_not_prime (by omega) hp
    symm
    rw [decide_eq_false_iff_not]
    intro he
    have k1 := wseq_dvd d3 d1 (n - 2) (by omega)
    rw [he] at k1
    have k2 := (Nat.dvd_sub d3 k1)
    rw [show n - (n - 1) = 1 by omega] at k2
    have := Nat.le_of_dvd (by omega) k2
    omega

end Wm

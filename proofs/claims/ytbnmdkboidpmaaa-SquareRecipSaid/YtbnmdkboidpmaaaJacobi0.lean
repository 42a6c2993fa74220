/-
  Plain: the symbol of JACOBI: both arguments, -1 and 2, reciprocity. No program in sight.
-/
import Derived.Test.YtbnmdkboidpmaaaRecip0
import Derived.Test.YtbnmdkboidpmaaaFactor0
namespace Wm

def expand (l : List (Nat × Nat)) : List Nat := l.flatMap fun x => List.replicate x.2 x.1
theorem expand_cons (x : Nat × Nat) (l : List (Nat × Nat)) : expand (x :: l) = List.replicate x.2 x.1 ++ expand l := by simp [expand]
theorem count_expand (p : Nat) : ∀ l, (expand l).count p = cnt p l
  | [] => rfl
  | x :: l => by
    rw [expand_cons, List.count_append, count_expand p l, List.count_replicate]
    simp [cnt]
theorem mem_expand {p : Nat} {l : List (Nat × Nat)} (h : p ∈ expand l) : ∃ x ∈ l, p = x.1 := by
  unfold expand at h
  rw [List.mem_flatMap] at h
  obtain ⟨x, hx, hp⟩ := h
  exact ⟨x, hx, (List.mem_replicate.1 hp).2⟩
theorem expand_prod : ∀ l : List (Nat × Nat), (expand l).prod = prodP l
  | [] => rfl
  | x :: l => by rw [expand_cons, List.prod_append_nat, List.prod_replicate_nat, expand_prod l]; rfl

def jacL (a : Int) : List Nat → Int
  | [] => 1
  | p :: l => lsym p a * jacL a l
def jacP (a : Int) : List (Nat × Nat) → Int
  | [] => 1
  | x :: l => lsym x.1 a ^ x.2 * jacP a l
theorem jacL_append (a : Int) : ∀ l m, jacL a (l ++ m) = jacL a l * jacL a m
  | [], m => by simp [jacL]
  | x :: l, m => by simp only [List.cons_append, jacL, jacL_append a l m, Int.mul_assoc]
theorem jacL_replicate (a : Int) (p : Nat) : ∀ k, jacL a (List.replicate k p) = lsym p a ^ k
  | 0 => by rw [List.replicate_zero, Int.pow_zero]; rfl
  | k + 1 => by rw [List.replicate_succ, jacL, jacL_replicate a p k, Int.pow_succ, Int.mul_comm]
theorem jacP_expand (a : Int) : ∀ l, jacP a l = jacL a (expand l)
  | [] => rfl
  | x :: l => by rw [expand_cons, jacL_append, jacL_replicate, jacP, jacP_expand a l]
theorem jacL_perm (a : Int) {l m : List Nat} (h : l.Perm m) : jacL a l = jacL a m := by
  induction h with
  | nil => rfl
  | cons x _ ih => simp only [jacL, ih]
  | swap x y l => simp only [jacL]; rw [Int.mul_left_comm]
  | trans _ _ h1 h2 => exact h1.trans h2

/-- Odd primes. -/
def OddP (l : List Nat) : Prop := ∀ p ∈ l, Prime p ∧ 3 ≤ p
theorem OddP.tail {p : Nat} {l : List Nat} (h : OddP (p :: l)) : OddP l := fun q hq => h q (by simp [hq])
theorem dvd_prod {p : Nat} {l : List Nat} (h : p ∈ l) : p ∣ l.prod := by rw [prod_erase h]; exact Nat.dvd_mul_right _ _
theorem oddP_of {n : Nat} {l : List (Nat × Nat)} (h : IsFac n l) (ho : n % 2 = 1) : OddP (expand l) := fun p hp => by
  obtain ⟨x, hx, rfl⟩ := mem_expand hp
  have hpr := (h.2.1 x hx).1
  refine ⟨hpr, ?_⟩
  have hd := dvd_prod hp
  rw [expand_prod, h.2.2] at hd
  have := hpr.1
  rcases Nat.lt_or_ge x.1 3 with h3 | h3
  · have : x.1 = 2 := by omega
    rw [this] at hd
    omega
  · exact h3
theorem OddP.odd {l : List Nat} (h : OddP l) : l.prod % 2 = 1 := by
  induction l with
  | nil => rfl
  | cons p l ih =>
    rw [List.prod_cons, Nat.mul_mod, ih h.tail, prime_odd (h p (by simp)).1 (h p (by simp)).2]
/-- In the lower argument. -/
theorem jacP_times (a : Int) {m n : Nat} {x y z : List (Nat × Nat)} (hx : IsFac m x) (hy : IsFac n y) (hz : IsFac (m * n) z) : jacP a z = jacP a x * jacP a y := by
  rw [jacP_expand, jacP_expand, jacP_expand, ← jacL_append]
  apply jacL_perm
  rw [List.perm_iff_count]
  intro p
  rw [List.count_append, count_expand, count_expand, count_expand, ← cnt_append]
  by_cases hp : Prime p
  · exact fac_mul hx hy hz hp
  · have hz0 : ∀ l : List (Nat × Nat), (∀ x ∈ l, Prime x.1 ∧ 1 ≤ x.2) → cnt p l = 0 := fun l hl => by
      rcases Nat.eq_zero_or_pos (cnt p l) with h | h
      · exact h
      · obtain ⟨q, hq, rfl⟩ := cnt_pos h
        exact absurd (hl q hq).1 hp
    rw [hz0 z hz.2.1, cnt_append, hz0 x hx.2.1, hz0 y hy.2.1]
/-- In the upper argument. -/
theorem jacL_mul {l : List Nat} (h : OddP l) (a b : Int) : jacL (a * b) l = jacL a l * jacL b l := by
  induction l with
  | nil => simp [jacL]
  | cons p l ih =>
    have hp := h p (by simp)
    simp only [jacL]
    rw [lsym_mul hp.1 hp.2, ih h.tail]
    ac_rfl
theorem jacL_neg {l : List Nat} (h : OddP l) : jacL (-1) l = if l.prod % 4 = 3 then -1 else 1 := by
  induction l with
  | nil => rfl
  | cons p l ih =>
    have hp := h p (by simp)
    have h1 := prime_odd hp.1 hp.2
    have h2 := h.tail.odd
    rw [jacL, lsym_neg hp.1 hp.2, ih h.tail, List.prod_cons]
    have h3 : p * l.prod % 4 = (p % 4) * (l.prod % 4) % 4 := Nat.mul_mod _ _ _
    have a1 : p % 4 = 1 ∨ p % 4 = 3 := by omega
    have a2 : l.prod % 4 = 1 ∨ l.prod % 4 = 3 := by omega
    rcases a1 with a1 | a1 <;> rcases a2 with a2 | a2 <;> rw [h3, a1, a2] <;> rfl
theorem jacL_two {l : List Nat} (h : OddP l) : jacL 2 l = if l.prod % 8 = 3 ∨ l.prod % 8 = 5 then -1 else 1 := by
  induction l with
  | nil => rfl
  | cons p l ih =>
    have hp := h p (by simp)
    have h1 := prime_odd hp.1 hp.2
    have h2 := h.tail.odd
    rw [jacL, lsym_two hp.1 hp.2, ih h.tail, List.prod_cons]
    have h3 : p * l.prod % 8 = (p % 8) * (l.prod % 8) % 8 := Nat.mul_mod _ _ _
    have a1 : p % 8 = 1 ∨ p % 8 = 3 ∨ p % 8 = 5 ∨ p % 8 = 7 := by omega
    have a2 : l.prod % 8 = 1 ∨ l.prod % 8 = 3 ∨ l.prod % 8 = 5 ∨ l.prod % 8 = 7 := by omega
    rcases a1 with a1 | a1 | a1 | a1 <;> rcases a2 with a2 | a2 | a2 | a2 <;> rw [h3, a1, a2] <;> rfl

def sgn4 (m n : Nat) : Int := if m % 4 = 3 ∧ n % 4 = 3 then -1 else 1
theorem sgn4_mul {a b c : Nat} (hb : b % 2 = 1) (hc : c % 2 = 1) : sgn4 a (b * c) = sgn4 a b * sgn4 a c := by
  unfold sgn4
  have h3 : b * c % 4 = (b % 4) * (c % 4) % 4 := Nat.mul_mod _ _ _
  have a1 : b % 4 = 1 ∨ b % 4 = 3 := by omega
  have a2 : c % 4 = 1 ∨ c % 4 = 3 := by omega
  by_cases h : a % 4 = 3
  · rcases a1 with a1 | a1 <;> rcases a2 with a2 | a2 <;> rw [h3, a1, a2, h] <;> rfl
  · rw [if_neg (fun e => h e.1), if_neg (fun e => h e.1), if_neg (fun e => h e.1)]; rfl
theorem sgn4_comm (a b : Nat) : sgn4 a b = sgn4 b a := by
  unfold sgn4
  by_cases h : a % 4 = 3 ∧ b % 4 = 3
  · rw [if_pos h, if_pos ⟨h.2, h.1⟩]
  · rw [if_neg h, if_neg fun e => h ⟨e.2, e.1⟩]
theorem jacL_recip1 {p : Nat} (hp : Prime p ∧ 3 ≤ p) : ∀ {m : List Nat}, OddP m → (∀ q ∈ m, p ≠ q) → jacL p m * lsym p (m.prod : Nat) = sgn4 p m.prod
  | [], _, _ => by
    have : lsym p ((([] : List Nat).prod : Nat) : Int) = 1 := by
      unfold lsym
      have h1 : (([] : List Nat).prod : Int) = 1 := rfl
      have hp1 := hp.1.1
      rw [show ((([] : List Nat).prod : Nat) : Int) = 1 from rfl, Int.one_pow, Int.emod_eq_of_lt (by omega) (by omega)]
      simp
    rw [this]
    simp [jacL, sgn4]
  | q :: m, hm, hne => by
    have hq := hm q (by simp)
    have ih := jacL_recip1 hp hm.tail fun r hr => hne r (by simp [hr])
    have hr := recip hq.1 hp.1 hq.2 hp.2 (fun e => hne q (by simp) e.symm)
    rw [List.prod_cons, sgn4_mul (prime_odd hq.1 hq.2) hm.tail.odd, ← ih]
    have hs : sgn4 p q = lsym q p * lsym p q := by rw [hr, sgn4_comm]; rfl
    rw [hs]
    simp only [jacL]
    rw [Int.natCast_mul, lsym_mul hp.1 hp.2]
    ac_rfl
theorem jacL_one {l : List Nat} (h : OddP l) : jacL 1 l = 1 := by
  induction l with
  | nil => rfl
  | cons p l ih =>
    have hp := h p (by simp)
    have hp1 := hp.1.1
    rw [jacL, ih h.tail]
    unfold lsym
    rw [Int.one_pow, Int.emod_eq_of_lt (by omega) (by omega)]
    simp
theorem jacL_recip : ∀ {l m : List Nat}, OddP l → OddP m → (∀ p ∈ l, ∀ q ∈ m, p ≠ q) → jacL (l.prod : Nat) m * jacL (m.prod : Nat) l = sgn4 l.prod m.prod
  | [], m, _, hm, _ => by
    rw [show ((([] : List Nat).prod : Nat) : Int) = 1 from rfl, jacL_one hm]
    simp [jacL, sgn4]
  | p :: l, m, hl, hm, hne => by
    have hp := hl p (by simp)
    have ih := jacL_recip hl.tail hm fun r hr => hne r (by simp [hr])
    have h1 := jacL_recip1 hp hm fun q hq => hne p (by simp) q hq
    rw [List.prod_cons, sgn4_comm, sgn4_mul (prime_odd hp.1 hp.2) hl.tail.odd, sgn4_comm m.prod p, sgn4_comm m.prod, ← ih, ← h1, Int.natCast_mul, jacL_mul hm]
    simp only [jacL]
    ac_rfl
theorem jacL_zero {a : Int} {p : Nat} (h3 : 3 ≤ p) (hd : (p : Int) ∣ a) : ∀ {l : List Nat}, p ∈ l → jacL a l = 0
  | q :: l, h => by
    rw [List.mem_cons] at h
    rcases h with rfl | h
    · rw [jacL, lsym_zero h3 hd, Int.zero_mul]
    · rw [jacL, jacL_zero h3 hd h, Int.mul_zero]

theorem exists_prime_dvd : ∀ n : Nat, 2 ≤ n → ∃ p, Prime p ∧ p ∣ n := by
  intro n
  induction n using Nat.strongRecOn with
  | ind n ih =>
    intro h
    by_cases hp : Prime n
    · exact ⟨n, hp, Nat.dvd_refl n⟩
    · obtain ⟨d, h1, h2, h3⟩ := exists_dvd_of_not_prime (by omega) hp
      obtain ⟨p, hp, hd⟩ := ih d h2 (by omega)
      exact ⟨p, hp, Nat.dvd_trans hd h3⟩
theorem mem_of_dvd_prod {p : Nat} (hp : Prime p) : ∀ {l : List Nat}, (∀ q ∈ l, Prime q) → p ∣ l.prod → p ∈ l
  | [], _, h => by
    rw [List.prod_nil] at h
    have := Nat.le_of_dvd (by omega) h
    have := hp.1
    omega
  | q :: l, hl, h => by
    rw [List.prod_cons] at h
    rcases hp.dvd_mul h with h | h
    · rcases (hl q (by simp)).2 p h with e | e
      · have := hp.1; omega
      · simp [e]
    · exact List.mem_cons_of_mem _ (mem_of_dvd_prod hp (fun q hq => hl q (by simp [hq])) h)

section
variable {m n : Nat} {x y : List (Nat × Nat)}
theorem jacP_mul (hx : IsFac n x) (ho : n % 2 = 1) (a b : Int) : jacP (a * b) x = jacP a x * jacP b x := by
  rw [jacP_expand, jacP_expand, jacP_expand, jacL_mul (oddP_of hx ho)]
theorem jacP_neg (hx : IsFac n x) (ho : n % 2 = 1) : jacP (-1) x = if n % 4 = 3 then -1 else 1 := by
  rw [jacP_expand, jacL_neg (oddP_of hx ho), expand_prod, hx.2.2]
theorem jacP_two (hx : IsFac n x) (ho : n % 2 = 1) : jacP 2 x = if n % 8 = 3 ∨ n % 8 = 5 then -1 else 1 := by
  rw [jacP_expand, jacL_two (oddP_of hx ho), expand_prod, hx.2.2]
theorem jacP_recip (hx : IsFac m x) (hy : IsFac n y) (hm : m % 2 = 1) (hn : n % 2 = 1) (hg : Nat.gcd m n = 1) : jacP m y * jacP n x = sgn4 m n := by
  have h := jacL_recip (oddP_of hx hm) (oddP_of hy hn) fun p hp q hq e => by
    subst e
    have h1 := dvd_prod hp
    have h2 := dvd_prod hq
    rw [expand_prod, hx.2.2] at h1
    rw [expand_prod, hy.2.2] at h2
    have h3 := Nat.dvd_gcd h1 h2
    rw [hg] at h3
    have := Nat.le_of_dvd (by omega) h3
    have := (oddP_of hx hm p hp).2
    omega
  rw [expand_prod, expand_prod, hx.2.2, hy.2.2] at h
  rw [jacP_expand, jacP_expand]
  exact h
theorem jacP_common (hy : IsFac n y) (hm : 1 ≤ m) (hn : n % 2 = 1) (hg : Nat.gcd m n ≠ 1) : jacP m y = 0 := by
  have hg0 : 0 < Nat.gcd m n := Nat.gcd_pos_of_pos_left _ (by omega)
  obtain ⟨p, hp, hd⟩ := exists_prime_dvd (Nat.gcd m n) (by omega)
  have h1 := Nat.dvd_trans hd (Nat.gcd_dvd_left m n)
  have h2 := Nat.dvd_trans hd (Nat.gcd_dvd_right m n)
  have hmem : p ∈ expand y := mem_of_dvd_prod hp (fun q hq => (oddP_of hy hn q hq).1) (by rw [expand_prod, hy.2.2]; exact h2)
  rw [jacP_expand]
  exact jacL_zero (oddP_of hy hn p hmem).2 (Int.natCast_dvd_natCast.2 h1) hmem
end

end Wm

/-
  Plain: GAUSS' lemma, EISENSTEIN's sums, quadratic reciprocity; the symbols of -1 and 2. No program in sight.
-/
import Derived.Test.YtbnmdkboidpmaaaLegendre0
namespace Wm

def sumN (f : Nat → Nat) : Nat → Nat
  | 0 => 0
  | n + 1 => sumN f n + f n
theorem sumN_congr {f g : Nat → Nat} : ∀ n, (∀ i, i < n → f i = g i) → sumN f n = sumN g n
  | 0, _ => rfl
  | n + 1, h => by
    simp only [sumN]
    rw [sumN_congr n fun i hi => h i (by omega), h n (by omega)]
theorem sumN_add (f g : Nat → Nat) : ∀ n, sumN (fun i => f i + g i) n = sumN f n + sumN g n
  | 0 => rfl
  | n + 1 => by simp only [sumN]; rw [sumN_add f g n]; omega
theorem sumN_const (c : Nat) : ∀ n, sumN (fun _ => c) n = n * c
  | 0 => by simp [sumN]
  | n + 1 => by simp only [sumN]; rw [sumN_const c n, Nat.add_mul, Nat.one_mul]
theorem sumN_swap (f : Nat → Nat → Nat) : ∀ m n, sumN (fun i => sumN (fun j => f i j) n) m = sumN (fun j => sumN (fun i => f i j) m) n
  | 0, n => by simp only [sumN]; rw [sumN_const]; simp
  | m + 1, n => by
    simp only [sumN]
    rw [sumN_swap f m n, sumN_add]
/-- How many multiples of p, from p on, are at most N. -/
theorem sumN_floor {p : Nat} (hp : 0 < p) (N : Nat) : ∀ k, sumN (fun j => if p * (j + 1) ≤ N then 1 else 0) k = min k (N / p)
  | 0 => by simp [sumN]
  | k + 1 => by
    simp only [sumN]
    rw [sumN_floor hp N k]
    have h : p * (k + 1) ≤ N ↔ k + 1 ≤ N / p := by rw [Nat.le_div_iff_mul_le hp, Nat.mul_comm]
    by_cases hk : k + 1 ≤ N / p
    · rw [if_pos (h.2 hk)]; omega
    · rw [if_neg fun hh => hk (h.1 hh)]; omega

/-- The numbers from 1 to h. -/
def upto (h : Nat) : List Nat := (List.range h).map (· + 1)
theorem mem_upto {h x : Nat} : x ∈ upto h ↔ 0 < x ∧ x ≤ h := by
  unfold upto
  rw [List.mem_map]
  constructor
  · rintro ⟨k, hk, rfl⟩; have := List.mem_range.1 hk; omega
  · rintro ⟨h1, h2⟩; exact ⟨x - 1, List.mem_range.2 (by omega), by omega⟩
theorem upto_nodup (h : Nat) : (upto h).Nodup := by
  unfold upto
  exact List.Pairwise.map _ (fun a b h e => h (by omega)) List.nodup_range
theorem upto_length (h : Nat) : (upto h).length = h := by simp [upto]
theorem upto_succ (h : Nat) : upto (h + 1) = upto h ++ [h + 1] := by simp [upto, List.range_succ]
theorem upto_sum (f : Nat → Nat) : ∀ h, ((upto h).map f).sum = sumN (fun i => f (i + 1)) h
  | 0 => rfl
  | h + 1 => by rw [upto_succ]; simp [sumN, upto_sum f h]

def fold (p h a i : Nat) : Nat := if a * i % p ≤ h then a * i % p else p - a * i % p
def sgn (p h a i : Nat) : Nat := if a * i % p ≤ h then 1 else p - 1
def big (p h a i : Nat) : Nat := if a * i % p ≤ h then 0 else 1

theorem fold_perm {p h a : Nat} (hp : Prime p) (hh : 2 * h + 1 = p) (ha : ¬ p ∣ a) : ((upto h).map (fold p h a)).Perm (upto h) := by
  have hp1 := hp.1
  have hc : Nat.gcd a p = 1 := by rw [Nat.gcd_comm]; exact hp.coprime ha
  have hr0 : ∀ x, 0 < x → x ≤ h → 0 < a * x % p := fun x h1 h2 => by
    rcases Nat.eq_zero_or_pos (a * x % p) with h0 | h0
    · exfalso
      rcases hp.dvd_mul (Nat.dvd_of_mod_eq_zero h0) with h' | h'
      · exact ha h'
      · have := Nat.le_of_dvd h1 h'; omega
    · exact h0
  have hrl : ∀ x, a * x % p < p := fun x => Nat.mod_lt _ (by omega)
  refine map_perm _ (upto_nodup h) (fun x hx => ?_) (fun x hx y hy he => ?_)
  · rw [mem_upto] at hx ⊢
    have h1 := hr0 x hx.1 hx.2
    have h2 := hrl x
    unfold fold
    split <;> omega
  · rw [mem_upto] at hx hy
    have h1 := hr0 x hx.1 hx.2
    have h2 := hrl x
    have h3 := hr0 y hy.1 hy.2
    have h4 := hrl y
    have key : a * x % p = a * y % p → x = y := fun e => by
      have : x % p = y % p := mod_cancel hc (by rw [Nat.mul_comm x, Nat.mul_comm y]; exact e)
      rwa [Nat.mod_eq_of_lt (by omega), Nat.mod_eq_of_lt (by omega)] at this
    have key2 : a * x % p + a * y % p ≠ p := fun e => by
      have : (a * (x + y)) % p = 0 := by rw [Nat.mul_add, Nat.add_mod, e, Nat.mod_self]
      rcases hp.dvd_mul (Nat.dvd_of_mod_eq_zero this) with h' | h'
      · exact ha h'
      · have := Nat.le_of_dvd (by omega) h'; omega
    unfold fold at he
    split at he <;> split at he
    · exact key he
    · omega
    · omega
    · exact key (by omega)

theorem sgn_fold {p h a : Nat} (hp : 1 < p) (i : Nat) : sgn p h a i * fold p h a i % p = a * i % p := by
  have h1 := Nat.mod_lt (a * i) (show p > 0 by omega)
  unfold sgn fold
  split
  · rw [Nat.one_mul, Nat.mod_mod]
  · generalize a * i % p = r at *
    obtain ⟨s, hs⟩ : ∃ s, p = r + s := ⟨p - r, by omega⟩
    have hs1 : 1 ≤ s := by omega
    obtain ⟨t, rfl⟩ : ∃ t, s = t + 1 := ⟨s - 1, by omega⟩
    have e : (p - 1) * (p - r) = r + p * t := by
      rw [show p - 1 = r + t by omega, show p - r = t + 1 by omega, hs]
      simp only [Nat.mul_add, Nat.add_mul, Nat.mul_one, Nat.one_mul]
      omega
    rw [e, Nat.add_mul_mod_self_left, Nat.mod_eq_of_lt h1]

theorem prod_sgn_fold {p h a : Nat} (hp : 1 < p) : ∀ l : List Nat, (l.map fun k => a * k % p).prod % p = ((l.map (sgn p h a)).prod * (l.map (fold p h a)).prod) % p
  | [] => by simp
  | x :: l => by
    simp only [List.map_cons, List.prod_cons]
    have e : sgn p h a x * (l.map (sgn p h a)).prod * (fold p h a x * (l.map (fold p h a)).prod) = (sgn p h a x * fold p h a x) * ((l.map (sgn p h a)).prod * (l.map (fold p h a)).prod) := by ac_rfl
    rw [e]
    exact mul_mod_cong (by rw [sgn_fold hp, Nat.mod_mod]) (prod_sgn_fold hp l)
theorem prod_sgn (p h a : Nat) : ∀ l : List Nat, (l.map (sgn p h a)).prod = (p - 1) ^ (l.map (big p h a)).sum
  | [] => by simp
  | x :: l => by
    simp only [List.map_cons, List.prod_cons, List.sum_cons]
    rw [prod_sgn p h a l, Nat.pow_add]
    congr 1
    unfold sgn big
    split <;> simp
theorem neg_pow {p : Nat} (h3 : 2 ≤ p) : ∀ m, (p - 1) ^ m % p = if m % 2 = 0 then 1 else p - 1
  | 0 => by rw [Nat.pow_zero, Nat.mod_eq_of_lt (by omega)]; rfl
  | m + 1 => by
    rw [Nat.pow_succ, Nat.mul_mod, neg_pow h3 m, Nat.mod_eq_of_lt (show p - 1 < p by omega)]
    by_cases hm : m % 2 = 0
    · rw [if_pos hm, if_neg (by omega), Nat.one_mul, Nat.mod_eq_of_lt (by omega)]
    · rw [if_neg hm, if_pos (by omega)]
      obtain ⟨q, rfl⟩ : ∃ q, p = q + 2 := ⟨p - 2, by omega⟩
      have e : (q + 2 - 1) * (q + 2 - 1) = 1 + (q + 2) * q := by
        rw [show q + 2 - 1 = q + 1 by omega]
        simp only [Nat.mul_add, Nat.add_mul, Nat.mul_one, Nat.one_mul]; omega
      rw [e, Nat.add_mul_mod_self_left, Nat.mod_eq_of_lt (by omega)]

/-- GAUSS' lemma. -/
theorem gauss {p h a : Nat} (hp : Prime p) (hh : 2 * h + 1 = p) (ha : ¬ p ∣ a) : a ^ h % p = if ((upto h).map (big p h a)).sum % 2 = 0 then 1 else p - 1 := by
  have hp1 := hp.1
  rw [← neg_pow (by omega), ← prod_sgn]
  have h1 := prod_sgn_fold (h := h) (a := a) hp1 (upto h)
  rw [(fold_perm hp hh ha).prod_nat, prod_map_mul, upto_length] at h1
  refine mod_cancel (c := (upto h).prod) (prod_coprime fun x hx => ?_) h1
  rw [mem_upto] at hx
  rw [Nat.gcd_comm]
  exact hp.coprime (not_dvd_of_lt hx.1 (by omega))

/-- EISENSTEIN: the parity by floors. -/
theorem big_floor {p h a : Nat} (hp : Prime p) (hh : 2 * h + 1 = p) (ha : ¬ p ∣ a) (ho : a % 2 = 1) : ((upto h).map (big p h a)).sum % 2 = ((upto h).map fun i => a * i / p).sum % 2 := by
  have hp1 := hp.1
  have one : ∀ i, (fold p h a i + (i + a * i / p + big p h a i)) % 2 = 0 := fun i => by
    have e := Nat.div_add_mod (a * i) p
    have h1 := Nat.mod_lt (a * i) (show p > 0 by omega)
    obtain ⟨b, rfl⟩ : ∃ b, a = 2 * b + 1 := ⟨a / 2, by omega⟩
    have e1 : (2 * b + 1) * i = 2 * (b * i) + i := by rw [Nat.add_mul, Nat.one_mul, Nat.mul_assoc]
    rw [← hh] at e h1 ⊢
    have e2 : (2 * h + 1) * ((2 * b + 1) * i / (2 * h + 1)) = 2 * (h * ((2 * b + 1) * i / (2 * h + 1))) + (2 * b + 1) * i / (2 * h + 1) := by rw [Nat.add_mul, Nat.one_mul, Nat.mul_assoc]
    rw [e2] at e
    unfold fold big
    generalize h * ((2 * b + 1) * i / (2 * h + 1)) = u at *
    generalize (2 * b + 1) * i / (2 * h + 1) = f at *
    generalize (2 * b + 1) * i % (2 * h + 1) = r at *
    generalize b * i = v at *
    split <;> omega
  have all : ∀ l : List Nat, ((l.map (fold p h a)).sum + (l.sum + (l.map fun i => a * i / p).sum + (l.map (big p h a)).sum)) % 2 = 0 := fun l => by
    induction l with
    | nil => rfl
    | cons x l ih =>
      have := one x
      simp only [List.map_cons, List.sum_cons]
      omega
  have h1 := all (upto h)
  rw [(fold_perm hp hh ha).sum_nat] at h1
  omega

/-- The points of a rectangle, on both sides of its diagonal. -/
theorem lattice {p q h k : Nat} (hp : Prime p) (hh : 2 * h + 1 = p) (hk : 2 * k + 1 = q) (hq : ¬ p ∣ q) (h0 : 0 < q) :
    ((upto h).map fun i => q * i / p).sum + ((upto k).map fun j => p * j / q).sum = h * k := by
  have hp1 := hp.1
  have e1 : ((upto h).map fun i => q * i / p).sum = sumN (fun i => sumN (fun j => if p * (j + 1) ≤ q * (i + 1) then 1 else 0) k) h := by
    rw [upto_sum]
    refine sumN_congr _ fun i hi => ?_
    rw [sumN_floor (by omega), Nat.min_eq_right]
    have : q * (i + 1) / p < k + 1 := by
      rw [Nat.div_lt_iff_lt_mul (by omega), ← hh, ← hk]
      have : (2 * k + 1) * (i + 1) ≤ (2 * k + 1) * h := Nat.mul_le_mul_left _ (by omega)
      have a1 : (2 * k + 1) * h = 2 * (k * h) + h := by rw [Nat.add_mul, Nat.one_mul, Nat.mul_assoc]
      have a2 : (k + 1) * (2 * h + 1) = 2 * (k * h) + k + 2 * h + 1 := by
        simp only [Nat.add_mul, Nat.mul_add, Nat.one_mul, Nat.mul_one]
        have : k * (2 * h) = 2 * (k * h) := by ac_rfl
        omega
      omega
    omega
  have e2 : ((upto k).map fun j => p * j / q).sum = sumN (fun i => sumN (fun j => if q * (i + 1) ≤ p * (j + 1) then 1 else 0) k) h := by
    rw [upto_sum, sumN_swap]
    refine sumN_congr _ fun j hj => ?_
    rw [sumN_floor (by omega), Nat.min_eq_right]
    have : p * (j + 1) / q < h + 1 := by
      rw [Nat.div_lt_iff_lt_mul (by omega), ← hh, ← hk]
      have : (2 * h + 1) * (j + 1) ≤ (2 * h + 1) * k := Nat.mul_le_mul_left _ (by omega)
      have a1 : (2 * h + 1) * k = 2 * (h * k) + k := by rw [Nat.add_mul, Nat.one_mul, Nat.mul_assoc]
      have a2 : (h + 1) * (2 * k + 1) = 2 * (h * k) + h + 2 * k + 1 := by
        simp only [Nat.add_mul, Nat.mul_add, Nat.one_mul, Nat.mul_one]
        have : h * (2 * k) = 2 * (h * k) := by ac_rfl
        omega
      omega
    omega
  rw [e1, e2, ← sumN_add]
  have e3 : sumN (fun i => sumN (fun j => if p * (j + 1) ≤ q * (i + 1) then 1 else 0) k + sumN (fun j => if q * (i + 1) ≤ p * (j + 1) then 1 else 0) k) h = sumN (fun _ => k * 1) h := by
    refine sumN_congr _ fun i hi => ?_
    rw [← sumN_add]
    refine Eq.trans (sumN_congr (g := fun _ => 1) _ fun j hj => ?_) (sumN_const 1 k)
    have hne : p * (j + 1) ≠ q * (i + 1) := fun e => by
      rcases hp.dvd_mul (⟨_, e.symm⟩ : p ∣ q * (i + 1)) with h' | h'
      · exact hq h'
      · have := Nat.le_of_dvd (by omega) h'; omega
    by_cases hlt : p * (j + 1) ≤ q * (i + 1)
    · rw [if_pos hlt, if_neg (by omega)]
    · rw [if_neg hlt, if_pos (by omega)]
  rw [e3, sumN_const, Nat.mul_one]

/-! ## The symbol -/
def lsym (p : Nat) (a : Int) : Int := if a ^ ((p - 1) / 2) % (p : Int) = 0 then 0 else if a ^ ((p - 1) / 2) % (p : Int) = 1 then 1 else -1
theorem lsym_nat (p a : Nat) : lsym p (a : Int) = if a ^ ((p - 1) / 2) % p = 0 then 0 else if a ^ ((p - 1) / 2) % p = 1 then 1 else -1 := by
  unfold lsym
  have : (a : Int) ^ ((p - 1) / 2) % (p : Int) = ((a ^ ((p - 1) / 2) % p : Nat) : Int) := by push_cast; rfl
  rw [this]
  by_cases h0 : a ^ ((p - 1) / 2) % p = 0
  · rw [if_pos h0, if_pos (by omega)]
  · rw [if_neg h0, if_neg (by omega)]
    by_cases h1 : a ^ ((p - 1) / 2) % p = 1
    · rw [if_pos h1, if_pos (by omega)]
    · rw [if_neg h1, if_neg (by omega)]
theorem lsym_mu {p a : Nat} (hp : Prime p) (h3 : 3 ≤ p) (ha : ¬ p ∣ a) : lsym p a = if ((upto ((p - 1) / 2)).map (big p ((p - 1) / 2) a)).sum % 2 = 0 then 1 else -1 := by
  have ho := prime_odd hp h3
  rw [lsym_nat, gauss hp (by omega) ha]
  by_cases h : ((upto ((p - 1) / 2)).map (big p ((p - 1) / 2) a)).sum % 2 = 0
  · rw [if_pos h, if_pos h]; simp
  · rw [if_neg h, if_neg h, if_neg (by omega), if_neg (by omega)]
/-- GAUSS: two odd primes. -/
theorem recip {p q : Nat} (hp : Prime p) (hq : Prime q) (hp3 : 3 ≤ p) (hq3 : 3 ≤ q) (hne : p ≠ q) : lsym p q * lsym q p = if p % 4 = 3 ∧ q % 4 = 3 then -1 else 1 := by
  have hpo := prime_odd hp hp3
  have hqo := prime_odd hq hq3
  have hpq : ¬ p ∣ q := fun h => by rcases hq.2 p h with e | e <;> omega
  have hqp : ¬ q ∣ p := fun h => by rcases hp.2 q h with e | e <;> omega
  rw [lsym_mu hp hp3 hpq, lsym_mu hq hq3 hqp, big_floor hp (by omega) hpq hqo, big_floor hq (by omega) hqp hpo]
  have hl := lattice (h := (p - 1) / 2) (k := (q - 1) / 2) hp (by omega) (by omega) hpq (by omega)
  generalize ((upto ((p - 1) / 2)).map fun i => q * i / p).sum = A at *
  generalize ((upto ((q - 1) / 2)).map fun j => p * j / q).sum = B at *
  have hpar : (A + B) % 2 = ((p - 1) / 2 % 2) * ((q - 1) / 2 % 2) := by
    rw [hl, Nat.mul_mod]
    rcases Nat.mod_two_eq_zero_or_one ((p - 1) / 2) with h1 | h1 <;> rcases Nat.mod_two_eq_zero_or_one ((q - 1) / 2) with h2 | h2 <;> rw [h1, h2]
  by_cases h : p % 4 = 3 ∧ q % 4 = 3
  · rw [if_pos h]
    rw [show (p - 1) / 2 % 2 = 1 by omega, show (q - 1) / 2 % 2 = 1 by omega] at hpar
    by_cases hA : A % 2 = 0
    · rw [if_pos hA, if_neg (by omega)]; rfl
    · rw [if_neg hA, if_pos (by omega)]; rfl
  · rw [if_neg h]
    have : (A + B) % 2 = 0 := by
      rw [hpar]
      by_cases h1 : p % 4 = 3
      · rw [show (q - 1) / 2 % 2 = 0 by omega, Nat.mul_zero]
      · rw [show (p - 1) / 2 % 2 = 0 by omega, Nat.zero_mul]
    by_cases hA : A % 2 = 0
    · rw [if_pos hA, if_pos (by omega)]; rfl
    · rw [if_neg hA, if_neg (by omega)]; rfl

theorem big_two {p h : Nat} (hh : 2 * h + 1 = p) : ∀ n, n ≤ h → ((upto n).map (big p h 2)).sum = n - min n (h / 2)
  | 0, _ => by simp [upto]
  | n + 1, hn => by
    rw [upto_succ]
    simp only [List.map_append, List.sum_append_nat, List.map_cons, List.map_nil, List.sum_cons, List.sum_nil, Nat.add_zero]
    rw [big_two hh n (by omega)]
    unfold big
    rw [Nat.mod_eq_of_lt (by omega)]
    split <;> omega
/-- The symbol of 2. -/
theorem lsym_two {p : Nat} (hp : Prime p) (h3 : 3 ≤ p) : lsym p 2 = if p % 8 = 3 ∨ p % 8 = 5 then -1 else 1 := by
  have ho := prime_odd hp h3
  have h2 : ¬ p ∣ 2 := fun h => by have := Nat.le_of_dvd (by omega) h; omega
  have e := lsym_mu hp h3 h2
  rw [big_two (by omega) _ (Nat.le_refl _)] at e
  refine e.trans ?_
  by_cases h : p % 8 = 3 ∨ p % 8 = 5
  · rw [if_pos h, if_neg (by omega)]
  · rw [if_neg h, if_pos (by omega)]
theorem lsym_cong {p : Nat} {a b : Int} (h : a % (p : Int) = b % (p : Int)) : lsym p a = lsym p b := by
  unfold lsym
  rw [← pow_emod a, h, pow_emod b]
/-- The symbol of a number: EULER's power. -/
theorem lsym_pow {p : Nat} (hp : Prime p) (h3 : 3 ≤ p) (a : Int) : (p : Int) ∣ a ^ ((p - 1) / 2) - lsym p a := by
  have hm : (a % (p : Int)) % (p : Int) = a % (p : Int) := Int.emod_emod_of_dvd _ (Int.dvd_refl _)
  have h0 := Int.emod_nonneg a (show (p : Int) ≠ 0 by omega)
  obtain ⟨A, hA⟩ := Int.eq_ofNat_of_zero_le h0
  have e1 : a ^ ((p - 1) / 2) % (p : Int) = ((A ^ ((p - 1) / 2) % p : Nat) : Int) := by
    rw [← pow_emod a, hA]; push_cast; rfl
  have h := euler_three (a := A) hp h3 (prime_odd hp h3)
  apply Int.dvd_of_emod_eq_zero
  unfold lsym
  rw [Int.sub_emod, e1]
  have hp1 := hp.1
  have em : ((p - 1 : Nat) : Int) = ((p : Int) - 1) % (p : Int) := by rw [Int.emod_eq_of_lt (by omega) (by omega)]; omega
  rcases h with h | h | h
  · rw [h]; simp
  · rw [h]; simp
  · rw [h, if_neg (by omega), if_neg (by omega), em, ← Int.sub_emod]
    rw [show (p : Int) - 1 - -1 = p by omega, Int.emod_self]
theorem lsym_one (p : Nat) (a : Int) : lsym p a = -1 ∨ lsym p a = 0 ∨ lsym p a = 1 := by
  unfold lsym; split
  · exact .inr (.inl rfl)
  · split
    · exact .inr (.inr rfl)
    · exact .inl rfl
theorem close_eq {p : Nat} {x y : Int} (h3 : 3 ≤ p) (hx : x = -1 ∨ x = 0 ∨ x = 1) (hy : y = -1 ∨ y = 0 ∨ y = 1) (h : (p : Int) ∣ x - y) : x = y := by
  obtain ⟨c, hc⟩ := h
  have hb : -2 ≤ x - y ∧ x - y ≤ 2 := by omega
  rcases Int.lt_trichotomy c 0 with h0 | h0 | h0
  · have : (p : Int) * c ≤ (p : Int) * (-1) := Int.mul_le_mul_of_nonneg_left (by omega) (by omega)
    omega
  · subst h0; omega
  · have : (p : Int) * 1 ≤ (p : Int) * c := Int.mul_le_mul_of_nonneg_left (by omega) (by omega)
    omega
theorem lsym_mul {p : Nat} (hp : Prime p) (h3 : 3 ≤ p) (a b : Int) : lsym p (a * b) = lsym p a * lsym p b := by
  have h1 := lsym_pow hp h3 a
  have h2 := lsym_pow hp h3 b
  have h4 := lsym_pow hp h3 (a * b)
  refine close_eq h3 (lsym_one _ _) ?_ ?_
  · rcases lsym_one p a with e | e | e <;> rcases lsym_one p b with f | f | f <;> rw [e, f] <;> decide
  · rw [Int.mul_pow] at h4
    generalize a ^ ((p - 1) / 2) = A at *
    generalize b ^ ((p - 1) / 2) = B at *
    generalize lsym p (a * b) = z at *
    generalize lsym p a = x at *
    generalize lsym p b = y at *
    obtain ⟨c, hc⟩ := h1
    obtain ⟨d, hd⟩ := h2
    obtain ⟨e, he⟩ := h4
    have hA : A = x + p * c := by omega
    have hB : B = y + p * d := by omega
    refine ⟨x * d + c * y + p * (c * d) - e, ?_⟩
    have : A * B = x * y + p * (x * d + c * y + p * (c * d)) := by
      rw [hA, hB]
      simp only [Int.add_mul, Int.mul_add]
      have a1 : x * ((p : Int) * d) = p * (x * d) := by ac_rfl
      have a2 : (p : Int) * c * y = p * (c * y) := by ac_rfl
      have a3 : (p : Int) * c * (p * d) = p * (p * (c * d)) := by ac_rfl
      omega
    rw [Int.mul_sub]
    omega
theorem lsym_neg {p : Nat} (hp : Prime p) (h3 : 3 ≤ p) : lsym p (-1) = if p % 4 = 3 then -1 else 1 := by
  have ho := prime_odd hp h3
  have h1 := lsym_pow hp h3 (-1)
  have e : ∀ n : Nat, (-1 : Int) ^ n = if n % 2 = 0 then 1 else -1 := fun n => by
    induction n with
    | zero => rfl
    | succ n ih =>
      rw [Int.pow_succ, ih]
      by_cases h : n % 2 = 0
      · rw [if_pos h, if_neg (by omega)]; rfl
      · rw [if_neg h, if_pos (by omega)]; rfl
  refine (close_eq h3 ?_ (lsym_one _ _) ?_).symm
  · split <;> simp
  · rw [e] at h1
    by_cases h : p % 4 = 3
    · rw [if_neg (by omega)] at h1; rw [if_pos h]; exact h1
    · rw [if_pos (by omega)] at h1; rw [if_neg h]; exact h1
theorem lsym_zero {p : Nat} (h3 : 3 ≤ p) {a : Int} (h : (p : Int) ∣ a) : lsym p a = 0 := by
  have : lsym p a = lsym p 0 := lsym_cong (by rw [Int.emod_eq_zero_of_dvd h, Int.zero_emod])
  rw [this]
  obtain ⟨k, hk⟩ : ∃ k, (p - 1) / 2 = k + 1 := ⟨(p - 1) / 2 - 1, by omega⟩
  unfold lsym
  rw [hk, Int.pow_succ, Int.mul_zero, Int.zero_emod, if_pos rfl]
theorem lsym_ne {p : Nat} (hp : Prime p) (h3 : 3 ≤ p) {a : Int} (h : ¬ (p : Int) ∣ a) : lsym p a ≠ 0 := fun h0 => by
  have h1 := lsym_pow hp h3 a
  rw [h0, Int.sub_zero] at h1
  have hd : ∀ n : Nat, (p : Int) ∣ a ^ n → (p : Int) ∣ a := fun n => by
    induction n with
    | zero =>
      intro h
      rw [Int.pow_zero] at h
      have := Int.le_of_dvd (by omega) h
      omega
    | succ n ih =>
      intro h
      rw [Int.pow_succ] at h
      have h5 := Int.natAbs_dvd_natAbs.2 h
      rw [Int.natAbs_mul, Int.natAbs_natCast] at h5
      rcases hp.dvd_mul h5 with h6 | h6
      · exact ih (Int.natAbs_dvd_natAbs.1 (by rwa [Int.natAbs_natCast]))
      · exact Int.natAbs_dvd_natAbs.1 (by rwa [Int.natAbs_natCast])
  exact h (hd _ h1)

end Wm

/-
  Plain: EULER's theorem by prime powers; the order divides. No program in sight.
-/
import Derived.Test.YticphnjljnhlcaaLegendre0
import Derived.Test.YticphnjljnhlcaaRest0
import Derived.Test.YticphnjljnhlcaaDivs5
namespace Wm

/-- 1 + x + .. + x^(n-1). -/
def gsum (x : Int) : Nat → Int
  | 0 => 0
  | n + 1 => 1 + x * gsum x n
theorem gsum_mul (x : Int) : ∀ n, (x - 1) * gsum x n = x ^ n - 1
  | 0 => by simp [gsum]
  | n + 1 => by
    have ih := gsum_mul x n
    have e : (x - 1) * gsum x (n + 1) = (x - 1) + x * ((x - 1) * gsum x n) := by
      simp only [gsum, Int.mul_add, Int.mul_one]
      congr 1
      ac_rfl
    rw [e, ih, Int.mul_sub, Int.pow_succ, Int.mul_one, Int.mul_comm x (x ^ n)]
    omega
theorem gsum_mod {p x : Int} (h : p ∣ x - 1) : ∀ n : Nat, p ∣ gsum x n - n
  | 0 => by simp [gsum]
  | n + 1 => by
    have ih := gsum_mod h n
    have e : gsum x (n + 1) - ((n + 1 : Nat) : Int) = (x - 1) * gsum x n + (gsum x n - n) := by
      simp only [gsum, Int.sub_mul, Int.one_mul]
      push_cast
      omega
    rw [e]
    exact Int.dvd_add (Int.dvd_trans h (Int.dvd_mul_right _ _)) ih
theorem one_dvd_pow {m x : Int} (h : m ∣ x - 1) (n : Nat) : m ∣ x ^ n - 1 := by
  rw [← gsum_mul]
  exact Int.dvd_trans h (Int.dvd_mul_right _ _)
theorem lift_pow {p : Nat} {x m : Int} (hm : m ∣ x - 1) (hp : (p : Int) ∣ x - 1) : m * p ∣ x ^ p - 1 := by
  rw [← gsum_mul]
  have h := gsum_mod hp p
  have h2 : (p : Int) ∣ gsum x p := by
    have := Int.dvd_add h (Int.dvd_refl (p : Int))
    rwa [show gsum x p - (p : Int) + (p : Int) = gsum x p by omega] at this
  exact Int.mul_dvd_mul hm h2

/-- EULER, of a prime power. -/
theorem euler_pp {p a : Nat} (hp : Prime p) (ha : ¬ p ∣ a) : ∀ k : Nat, ((p ^ (k + 1) : Nat) : Int) ∣ (a : Int) ^ (p ^ k * (p - 1)) - 1
  | 0 => by
    have h := fermat_one hp ha
    have hp1 := hp.1
    refine dvd_of_emod_one ?_
    have h1 : (a : Int) ^ (p ^ 0 * (p - 1)) % ((p ^ (0 + 1) : Nat) : Int) = ((a ^ (p - 1) % p : Nat) : Int) := by
      simp
    rw [h1, h]
    rw [Nat.zero_add, Nat.pow_one]
    exact (Int.emod_eq_of_lt (by omega) (by omega)).symm
  | k + 1 => by
    have ih := euler_pp hp ha k
    have e : (a : Int) ^ (p ^ (k + 1) * (p - 1)) = ((a : Int) ^ (p ^ k * (p - 1))) ^ p := by
      rw [← Int.pow_mul]
      congr 1
      rw [Nat.pow_succ]
      ac_rfl
    rw [e, Nat.pow_succ, Int.natCast_mul]
    refine lift_pow ih (Int.dvd_trans ?_ ih)
    exact Int.ofNat_dvd.2 ⟨p ^ k, by rw [Nat.pow_succ, Nat.mul_comm]⟩

theorem dvd_of_cop {m n : Nat} {x : Int} (h : Nat.Coprime m n) (h1 : (m : Int) ∣ x) (h2 : (n : Int) ∣ x) : ((m * n : Nat) : Int) ∣ x := by
  rw [Int.ofNat_dvd_left] at h1 h2 ⊢
  exact Nat.Coprime.mul_dvd_of_dvd_of_dvd h h1 h2

open Go.Proofs.Yticphnjljnhlcaa in
/-- EULER's theorem. -/
theorem euler_fac {a : Nat} : ∀ {l : List (Nat × Nat)}, Good l → (∀ x ∈ l, ¬ x.1 ∣ a) → ((prodP l : Nat) : Int) ∣ (a : Int) ^ nphi l - 1
  | [], _, _ => ⟨(a : Int) ^ nphi [] - 1, by simp [prodP]⟩
  | x :: l, hg, ha => by
    have hg' : Good l := ⟨(List.pairwise_cons.1 hg.1).2, fun y hy => hg.2 y (by simp [hy])⟩
    have ih := euler_fac (a := a) hg' fun y hy => ha y (by simp [hy])
    have hx := hg.2 x (by simp)
    obtain ⟨j, hj⟩ : ∃ j, x.2 = j + 1 := ⟨x.2 - 1, by omega⟩
    have hpp := euler_pp hx.1 (ha x (by simp)) j
    have hno : ¬ x.1 ∣ prodP l := not_dvd_prodP hg' hx.1 fun y hy e => by have := (List.pairwise_cons.1 hg.1).1 y hy; omega
    have hcop : Nat.Coprime (x.1 ^ x.2) (prodP l) := (coprime_pow hx.1 hno x.2).symm
    simp only [prodP, nphi]
    refine dvd_of_cop hcop ?_ ?_
    · rw [hj, Nat.add_sub_cancel, Int.pow_mul]
      exact one_dvd_pow hpp _
    · rw [Nat.mul_comm, Int.pow_mul]
      exact one_dvd_pow ih _

open Go.Proofs.Yticphnjljnhlcaa in
theorem euler_any {a m : Nat} {l : List (Nat × Nat)} (h : IsFac m l) (hc : Nat.gcd a m = 1) : (a : Int) ^ nphi l % (m : Int) = 1 % (m : Int) := by
  have := euler_fac (a := a) h.good fun x hx hd => by
    have h1 := Nat.dvd_gcd hd (mem_prime_dvd h hx)
    rw [hc] at h1
    have h2 := Nat.le_of_dvd (by omega) h1
    have h3 := (h.2.1 x hx).1.1
    omega
  rw [h.2.2] at this
  exact emod_one_of_dvd this

/-- The order divides every exponent that gives 1. -/
theorem order_dvd {a m : Int} {k n : Nat} (hk : 0 < k) (h : a ^ k % m = 1 % m) (hmin : ∀ j, 0 < j → j < k → a ^ j % m ≠ 1 % m) (hn : a ^ n % m = 1 % m) : n % k = 0 := by
  have e : a ^ n = (a ^ k) ^ (n / k) * a ^ (n % k) := by
    rw [← Int.pow_mul, ← Int.pow_add, Nat.div_add_mod]
  have h1 : (a ^ k) ^ (n / k) % m = 1 % m := emod_one_of_dvd (one_dvd_pow (dvd_of_emod_one h) _)
  rcases Nat.eq_zero_or_pos (n % k) with h0 | h0
  · exact h0
  · exfalso
    refine hmin (n % k) h0 (Nat.mod_lt _ hk) ?_
    rw [e, Int.mul_emod, h1, ← Int.mul_emod, Int.one_mul] at hn
    exact hn
theorem least_exp {a m : Int} {N : Nat} (hN : 1 ≤ N) (h : a ^ N % m = 1 % m) : ∃ k, 1 ≤ k ∧ k ≤ N ∧ a ^ k % m = 1 % m ∧ ∀ j, 0 < j → j < k → a ^ j % m ≠ 1 % m := by
  induction N using Nat.strongRecOn with
  | ind N ih =>
    by_cases hex : ∃ j, 0 < j ∧ j < N ∧ a ^ j % m = 1 % m
    · obtain ⟨j, h1, h2, h3⟩ := hex
      obtain ⟨k, g1, g2, g3, g4⟩ := ih j h2 h1 h3
      exact ⟨k, g1, by omega, g3, g4⟩
    · exact ⟨N, hN, Nat.le_refl _, h, fun j h1 h2 h3 => hex ⟨j, h1, h2, h3⟩⟩

end Wm

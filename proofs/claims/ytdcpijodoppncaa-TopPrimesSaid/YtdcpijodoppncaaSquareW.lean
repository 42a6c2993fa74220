/-
  The walks of the laws SquareEuler and SquareRoot.
-/
import Derived.Test.YtdcpijodoppncaaSymbol1
import Derived.Test.YtdcpijodoppncaaLegendre0
import Derived.Test.YtdcpijodoppncaaArith1
set_option linter.unusedVariables false
set_option linter.unusedSimpArgs false
namespace Go.Proofs.Ytdcpijodoppncaa
open Go.RowKit Go.BigFrame

theorem prime_7 : Wm.Prime 7 := Wm.pchk_spec (r := 1) (by decide +kernel)
theorem fac_prime {p : Nat} (hp : Wm.Prime p) : Wm.IsFac p [(p, 1)] := ⟨by simp, fun x hx => by
  simp only [List.mem_singleton] at hx
  subst hx
  exact ⟨hp, Nat.le_refl _⟩, by simp [Wm.prodP]⟩
theorem jac_prime (a : Int) (p : Nat) : jac a [(p, 1)] = leg p a := by simp [jac, Int.pow_succ]
theorem Symbol_prime (a : Int) (p : Nat) (w : World) (hp : Wm.Prime p) (h3 : 3 ≤ p) (h6 : p ≤ 1000000) :
    Calls Try.prog 19 #[.int .i64 a, .int .i64 p] w fun e w' => e = .returned (.tuple #[.int .i64 (leg p a), .int .i64 0]) ∧ Ext w w' :=
  (Symbol_ok a p w (by omega) h6 (Wm.prime_odd hp h3)).mono fun e w' ⟨⟨l, hl, he⟩, hx⟩ => ⟨by rw [he, Wm.fac_unique hl (fac_prime hp), jac_prime], hx⟩

/-- A remainder's power, in naturals. -/
theorem emod_pow_nat (a : Int) (p n : Nat) (hp : 0 < p) : a ^ n % (p : Int) = (((a % (p : Int)).toNat ^ n % p : Nat) : Int) := by
  have h0 := Int.emod_nonneg a (show (p : Int) ≠ 0 by omega)
  obtain ⟨A, hA⟩ := Int.eq_ofNat_of_zero_le h0
  rw [← Wm.pow_emod a (p : Int) n, hA, Int.toNat_natCast]
  push_cast
  rfl
theorem dvd_rem {a : Int} {p : Nat} (hp : 0 < p) : (p : Int) ∣ a ↔ p ∣ (a % (p : Int)).toNat := by
  have h0 := Int.emod_nonneg a (show (p : Int) ≠ 0 by omega)
  have h1 := Int.emod_lt_of_pos a (show (0 : Int) < p by omega)
  constructor
  · intro h
    rw [Int.emod_eq_zero_of_dvd h]
    simp
  · intro h
    apply Int.dvd_of_emod_eq_zero
    rcases Nat.eq_zero_or_pos (a % (p : Int)).toNat with h' | h'
    · omega
    · have := Nat.le_of_dvd h' h; omega
/-- EULER: what LEGENDRE's symbol is. -/
theorem leg_power (p : Nat) (a : Int) (hp : Wm.Prime p) (h3 : 3 ≤ p) : a ^ ((p - 1) / 2) % (p : Int) = leg p a % (p : Int) := by
  have h := Wm.euler_three (a := (a % (p : Int)).toNat) hp h3 (Wm.prime_odd hp h3)
  have e := emod_pow_nat a p ((p - 1) / 2) hp.pos
  unfold leg
  rw [e]
  rcases h with h | h | h
  · rw [h]; simp
  · rw [h]
    simp only [Int.natCast_one, Int.one_ne_zero, if_false, if_true]
    rw [Int.emod_eq_of_lt (by omega) (by omega)]
  · rw [h, if_neg (by omega), if_neg (by omega)]
    have : ((p - 1 : Nat) : Int) = (p : Int) - 1 := by omega
    rw [this]
    have h2 := Int.add_emod_right (-1) (p : Int)
    rw [← h2, show (-1 : Int) + p = p - 1 by omega, Int.emod_eq_of_lt (by omega) (by omega)]
/-- A root, or none. -/
theorem root_leg {p : Nat} {a : Int} (hp : Wm.Prime p) (h3 : 3 ≤ p) (hno : ∀ y, y < p → ((y * y % p : Nat) : Int) ≠ a % (p : Int)) : leg p a = -1 := by
  have h0 := Int.emod_nonneg a (show (p : Int) ≠ 0 by omega)
  have h1 := Int.emod_lt_of_pos a (show (0 : Int) < p by omega)
  have ha : ¬ p ∣ (a % (p : Int)).toNat := fun h => by
    have := (dvd_rem (a := a) hp.pos).2 h
    apply hno 0 hp.pos
    rw [Int.emod_eq_zero_of_dvd this]
    simp
  have h := Wm.euler_non hp h3 ha fun x hx e => hno x hx (by
    rw [Nat.mod_eq_of_lt (show (a % (p : Int)).toNat < p by omega)] at e
    omega)
  have e := emod_pow_nat a p ((p - 1) / 2) hp.pos
  rw [h] at e
  unfold leg
  rw [e, if_neg (by omega), if_neg (by omega)]
theorem leg_root {p x : Nat} {a : Int} (hp : Wm.Prime p) (h3 : 3 ≤ p) (hx : ((x * x % p : Nat) : Int) = a % (p : Int)) : 0 ≤ leg p a := by
  have h1 := Int.emod_lt_of_pos a (show (0 : Int) < p by omega)
  have hh : x * x % p = (a % (p : Int)).toNat % p := by rw [Nat.mod_eq_of_lt (show (a % (p : Int)).toNat < p by omega)]; omega
  have e := emod_pow_nat a p ((p - 1) / 2) hp.pos
  unfold leg
  rw [e]
  by_cases ha : p ∣ (a % (p : Int)).toNat
  · rw [Wm.euler_zero hp h3 ha]; simp
  · rw [Wm.euler_yes hp (Wm.prime_odd hp h3) ha hh]; simp
/-- The least root is below half. -/
theorem root_half {p x : Nat} {a : Int} (hp : Wm.Prime p) (h3 : 3 ≤ p) (hlt : x < p) (hx : ((x * x % p : Nat) : Int) = a % (p : Int)) (hmin : ∀ y, y < x → ((y * y % p : Nat) : Int) ≠ a % (p : Int)) : 2 * x < p := by
  have ho := Wm.prime_odd hp h3
  rcases Nat.lt_or_ge (2 * x) p with h | h
  · exact h
  · exfalso
    apply hmin (p - x) (by omega)
    rw [← hx]
    congr 1
    have e : (p - x) * (p - x) = x * x + p * (p - 2 * x) ∨ (p - x) * (p - x) + p * (2 * x - p) = x * x := by
      right
      obtain ⟨y, rfl⟩ : ∃ y, p = x + y := ⟨p - x, by omega⟩
      obtain ⟨z, rfl⟩ : ∃ z, x = y + z := ⟨x - y, by omega⟩
      rw [show y + z + y - (y + z) = y by omega, show 2 * (y + z) - (y + z + y) = z by omega]
      simp only [Nat.mul_add, Nat.add_mul]
      have := Nat.mul_comm y z
      omega
    rcases e with e | e
    · rw [e, Nat.add_mul_mod_self_left]
    · rw [← e, Nat.add_mul_mod_self_left]

end Go.Proofs.Ytdcpijodoppncaa

/-
  How many irreducible polynomials there are of a degree up to 6, by Moebius: plain.
-/
import Derived.Test.YtahchidghfeofaaDivs2
set_option linter.unusedVariables false
set_option linter.unusedSimpArgs false
namespace Wm
/-- The divisors of the small numbers. -/
def tl : Nat → List Nat
  | 1 => [1] | 2 => [1, 2] | 3 => [1, 3] | 4 => [1, 2, 4] | 5 => [1, 5] | 6 => [1, 2, 3, 6] | _ => []
def fl : Nat → List (Nat × Nat)
  | 2 => [(2, 1)] | 3 => [(3, 1)] | 4 => [(2, 2)] | 5 => [(5, 1)] | 6 => [(2, 1), (3, 1)] | _ => []
def mu6 : Nat → Int
  | 1 => 1 | 2 => -1 | 3 => -1 | 5 => -1 | 6 => 1 | _ => 0
theorem p2 : Prime 2 := pchk_spec (r := 0) (by decide +kernel)
theorem p3 : Prime 3 := pchk_spec (r := 1) (by decide +kernel)
theorem p5 : Prime 5 := pchk_spec (r := 1) (by decide +kernel)
theorem fl_fac {n : Nat} (h1 : 1 ≤ n) (h6 : n ≤ 6) : IsFac n (fl n) := by
  rcases (show n = 1 ∨ n = 2 ∨ n = 3 ∨ n = 4 ∨ n = 5 ∨ n = 6 by omega) with rfl | rfl | rfl | rfl | rfl | rfl
  · exact ⟨by simp [fl], by simp [fl], rfl⟩
  · exact ⟨by simp [fl], by simp [fl, p2], rfl⟩
  · exact ⟨by simp [fl], by simp [fl, p3], rfl⟩
  · exact ⟨by simp [fl], by simp [fl, p2], rfl⟩
  · exact ⟨by simp [fl], by simp [fl, p5], rfl⟩
  · exact ⟨by simp [fl], by simp [fl, p2, p3], rfl⟩
theorem six_cases {n : Nat} (h1 : 1 ≤ n) (h6 : n ≤ 6) : n = 1 ∨ n = 2 ∨ n = 3 ∨ n = 4 ∨ n = 5 ∨ n = 6 := by omega
theorem tl_is {n : Nat} (h1 : 1 ≤ n) (h6 : n ≤ 6) {l : List (Nat × Nat)} (h : IsFac n l) {T : List Nat} (hp : T.Perm (dv l)) (hs : T.Pairwise (· < ·)) : T = tl n := by
  rw [fac_unique h (fl_fac h1 h6)] at hp
  have hq : (tl n).Perm (dv (fl n)) := by
    rcases six_cases h1 h6 with rfl | rfl | rfl | rfl | rfl | rfl <;> decide
  have hs2 : (tl n).Pairwise (· < ·) := by
    rcases six_cases h1 h6 with rfl | rfl | rfl | rfl | rfl | rfl <;> decide
  exact (hp.trans hq.symm).eq_of_pairwise (fun a b _ _ h1 h2 => absurd h1 (by omega)) hs hs2
theorem tl_len {n : Nat} (h1 : 1 ≤ n) (h6 : n ≤ 6) : 1 ≤ (tl n).length ∧ (tl n).length ≤ 4 := by
  rcases six_cases h1 h6 with rfl | rfl | rfl | rfl | rfl | rfl <;> decide
theorem tl_get {n x : Nat} (h1 : 1 ≤ n) (h6 : n ≤ 6) (hx : x < (tl n).length) : 1 ≤ (tl n).getD x 0 ∧ (tl n).getD x 0 ≤ n := by
  have : ∀ n, n < 7 → ∀ x, x < (tl n).length → 1 ≤ (tl n).getD x 0 ∧ (tl n).getD x 0 ≤ n := by decide
  exact this n (by omega) x hx
theorem mu_is {n : Nat} (h1 : 1 ≤ n) (h6 : n ≤ 6) {l : List (Nat × Nat)} (h : IsFac n l) : mulF Go.Proofs.Ytahchidghfeofaa.gmu l = mu6 n := by
  rw [fac_unique h (fl_fac h1 h6)]
  rcases six_cases h1 h6 with rfl | rfl | rfl | rfl | rfl | rfl <;> rfl
theorem mu_small (n : Nat) : -1 ≤ mu6 n ∧ mu6 n ≤ 1 := by
  unfold mu6
  split <;> omega

/-- The sum on the way. -/
def sG (p n : Nat) : Nat → Int
  | 0 => 0
  | x + 1 => sG p n x + mu6 ((tl n).getD x 0) * ((p ^ (n / (tl n).getD x 0) : Nat) : Int)
def gG (p n : Nat) : Int := sG p n (tl n).length
def ctI (p n : Nat) : Int := (gG p n).tdiv n
theorem mul_small {m : Int} (h : -1 ≤ m ∧ m ≤ 1) {q : Nat} (hq : q ≤ 1000000) : -1000000 ≤ m * (q : Int) ∧ m * (q : Int) ≤ 1000000 := by
  rcases (show m = -1 ∨ m = 0 ∨ m = 1 by omega) with rfl | rfl | rfl <;> omega
theorem sG_small {p n : Nat} (hp : 0 < p) (hpw : p ^ n ≤ 1000000) : ∀ x : Nat, -1000000 * (x : Int) ≤ sG p n x ∧ sG p n x ≤ 1000000 * (x : Int)
  | 0 => by simp [sG]
  | x + 1 => by
    have ih := sG_small hp hpw x
    have hq : p ^ (n / (tl n).getD x 0) ≤ 1000000 := Nat.le_trans (Nat.pow_le_pow_right hp (Nat.div_le_self _ _)) hpw
    have := mul_small (mu_small ((tl n).getD x 0)) hq
    simp only [sG]
    push_cast
    push_cast at this
    omega
theorem gG_eq (p : Nat) {n : Nat} (h1 : 1 ≤ n) (h6 : n ≤ 6) : gG p n = match n with
    | 1 => (p : Int) | 2 => (p : Int) ^ 2 - p | 3 => (p : Int) ^ 3 - p | 4 => (p : Int) ^ 4 - (p : Int) ^ 2 | 5 => (p : Int) ^ 5 - p | 6 => (p : Int) ^ 6 - (p : Int) ^ 3 - (p : Int) ^ 2 + p | _ => 0 := by
  rcases six_cases h1 h6 with rfl | rfl | rfl | rfl | rfl | rfl
  · simp [gG, sG, tl, mu6]
  · simp [gG, sG, tl, mu6]; omega
  · simp [gG, sG, tl, mu6]; omega
  · simp [gG, sG, tl, mu6]; omega
  · simp [gG, sG, tl, mu6]; omega
  · simp [gG, sG, tl, mu6]; omega
theorem gG_dvd (p : Nat) {n : Nat} (h1 : 1 ≤ n) (h6 : n ≤ 6) : (n : Int) ∣ gG p n := by
  apply Int.dvd_of_emod_eq_zero
  rw [gG_eq p h1 h6]
  generalize (p : Int) = q
  rcases six_cases h1 h6 with rfl | rfl | rfl | rfl | rfl | rfl
  · show q % 1 = 0; omega
  · show (q ^ 2 - q) % 2 = 0
    rcases (show q % 2 = 0 ∨ q % 2 = 1 by omega) with h | h <;> simp [Int.sub_emod, Int.pow_succ, Int.mul_emod, h]
  · show (q ^ 3 - q) % 3 = 0
    rcases (show q % 3 = 0 ∨ q % 3 = 1 ∨ q % 3 = 2 by omega) with h | h | h <;> simp [Int.sub_emod, Int.pow_succ, Int.mul_emod, h]
  · show (q ^ 4 - q ^ 2) % 4 = 0
    rcases (show q % 4 = 0 ∨ q % 4 = 1 ∨ q % 4 = 2 ∨ q % 4 = 3 by omega) with h | h | h | h <;> simp [Int.sub_emod, Int.pow_succ, Int.mul_emod, h]
  · show (q ^ 5 - q) % 5 = 0
    rcases (show q % 5 = 0 ∨ q % 5 = 1 ∨ q % 5 = 2 ∨ q % 5 = 3 ∨ q % 5 = 4 by omega) with h | h | h | h | h <;> simp [Int.sub_emod, Int.pow_succ, Int.mul_emod, h]
  · show (q ^ 6 - q ^ 3 - q ^ 2 + q) % 6 = 0
    rcases (show q % 6 = 0 ∨ q % 6 = 1 ∨ q % 6 = 2 ∨ q % 6 = 3 ∨ q % 6 = 4 ∨ q % 6 = 5 by omega) with h | h | h | h | h | h <;> simp [Int.add_emod, Int.sub_emod, Int.pow_succ, Int.mul_emod, h]
theorem ctI_mul (p : Nat) {n : Nat} (h1 : 1 ≤ n) (h6 : n ≤ 6) : (n : Int) * ctI p n = gG p n := by
  unfold ctI
  exact Int.mul_tdiv_cancel' (gG_dvd p h1 h6)
theorem gG_pos {p n : Nat} (hp : 2 ≤ p) (h1 : 1 ≤ n) (h6 : n ≤ 6) : 1 ≤ gG p n := by
  rw [gG_eq p h1 h6]
  have hq : (2 : Int) ≤ (p : Int) := by omega
  generalize (p : Int) = q at *
  have e2 : 2 * q ≤ q ^ 2 := by rw [Int.pow_succ, Int.pow_succ, Int.pow_zero, Int.one_mul]; exact Int.mul_le_mul_of_nonneg_right hq (by omega)
  have s : ∀ a : Int, 0 ≤ a → 2 * a ≤ a * q := fun a ha => by rw [Int.mul_comm 2 a]; exact Int.mul_le_mul_of_nonneg_left hq ha
  have e3 : 2 * q ^ 2 ≤ q ^ 3 := by have := s (q ^ 2) (by omega); rw [Int.pow_succ q 2]; exact this
  have e4 : 2 * q ^ 3 ≤ q ^ 4 := by have := s (q ^ 3) (by omega); rw [Int.pow_succ q 3]; exact this
  have e5 : 2 * q ^ 4 ≤ q ^ 5 := by have := s (q ^ 4) (by omega); rw [Int.pow_succ q 4]; exact this
  have e6 : 2 * q ^ 5 ≤ q ^ 6 := by have := s (q ^ 5) (by omega); rw [Int.pow_succ q 5]; exact this
  rcases six_cases h1 h6 with rfl | rfl | rfl | rfl | rfl | rfl
  · show 1 ≤ q; omega
  · show 1 ≤ q ^ 2 - q; omega
  · show 1 ≤ q ^ 3 - q; omega
  · show 1 ≤ q ^ 4 - q ^ 2; omega
  · show 1 ≤ q ^ 5 - q; omega
  · show 1 ≤ q ^ 6 - q ^ 3 - q ^ 2 + q; omega
theorem ctI_pos {p n : Nat} (hp : 2 ≤ p) (h1 : 1 ≤ n) (h6 : n ≤ 6) : 1 ≤ ctI p n := by
  have h := ctI_mul p h1 h6
  have h2 := gG_pos hp h1 h6
  by_cases c : 1 ≤ ctI p n
  · exact c
  · have : (n : Int) * ctI p n ≤ 0 := Int.mul_nonpos_of_nonneg_of_nonpos (by omega) (by omega)
    omega
/-- All together, on the way. -/
def aG (p k : Nat) : Nat → Int
  | 0 => 0
  | d + 1 => if k % (d + 1) = 0 then aG p k d + ((d + 1 : Nat) : Int) * ctI p (d + 1) else aG p k d
theorem aG_all (p : Nat) {k : Nat} (h1 : 1 ≤ k) (h6 : k ≤ 6) : aG p k k = ((p ^ k : Nat) : Int) := by
  have c1 := ctI_mul p (n := 1) (by omega) (by omega)
  have c2 := ctI_mul p (n := 2) (by omega) (by omega)
  have c3 := ctI_mul p (n := 3) (by omega) (by omega)
  have c4 := ctI_mul p (n := 4) (by omega) (by omega)
  have c5 := ctI_mul p (n := 5) (by omega) (by omega)
  have c6 := ctI_mul p (n := 6) (by omega) (by omega)
  rw [gG_eq p (by omega) (by omega)] at c1 c2 c3 c4 c5 c6
  simp only at c1 c2 c3 c4 c5 c6
  rcases six_cases h1 h6 with rfl | rfl | rfl | rfl | rfl | rfl
  · simp [aG] at *; omega
  · simp [aG] at *; omega
  · simp [aG] at *; omega
  · simp [aG] at *; omega
  · simp [aG] at *; omega
  · simp [aG] at *; omega
theorem ctI_le {p n : Nat} (hp : 0 < p) (hpw : p ^ n ≤ 1000000) (h1 : 1 ≤ n) (h6 : n ≤ 6) : gG p n ≤ 4000000 := by
  have := (sG_small hp hpw (tl n).length).2
  have h4 := (tl_len h1 h6).2
  unfold gG
  omega
theorem aG_small {p k : Nat} (hp : 2 ≤ p) (hpw : p ^ k ≤ 1000000) (h6 : k ≤ 6) : ∀ d : Nat, d ≤ k → 0 ≤ aG p k d ∧ aG p k d ≤ 4000000 * (d : Int)
  | 0, _ => by simp [aG]
  | d + 1, h => by
    have ih := aG_small hp hpw h6 d (by omega)
    have hq : p ^ (d + 1) ≤ 1000000 := Nat.le_trans (Nat.pow_le_pow_right (by omega) h) hpw
    have h1 := ctI_mul p (n := d + 1) (by omega) (by omega)
    have h2 := gG_pos (n := d + 1) hp (by omega) (by omega)
    have h3 := ctI_le (n := d + 1) (by omega) hq (by omega) (by omega)
    simp only [aG]
    split
    · rw [h1]; push_cast; omega
    · push_cast; omega
end Wm

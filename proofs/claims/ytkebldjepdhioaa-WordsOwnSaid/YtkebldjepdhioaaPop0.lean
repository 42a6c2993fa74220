/-
  Plain facts on the number of ones of a word of 16 bits: of two words' common bits and of all their bits. No program in sight.
-/
set_option linter.unusedVariables false
set_option linter.unusedSimpArgs false
namespace Wm

def ones (w : Nat) : Nat → Nat
  | 0 => 0
  | k + 1 => ones w k + w / 2 ^ k % 2

theorem ones_le (w : Nat) : ∀ k, ones w k ≤ k
  | 0 => Nat.le_refl _
  | k + 1 => by
    have := ones_le w k
    simp only [ones]
    omega
theorem ones_bit (w k : Nat) : w / 2 ^ k % 2 = (w.testBit k).toNat := (Nat.toNat_testBit w k).symm
theorem ones_and_or (a b : Nat) : ∀ k, ones (a &&& b) k + ones (a ||| b) k = ones a k + ones b k
  | 0 => rfl
  | k + 1 => by
    have := ones_and_or a b k
    simp only [ones, ones_bit, Nat.testBit_and, Nat.testBit_or]
    cases a.testBit k <;> cases b.testBit k <;> simp <;> omega
theorem ones_above {w n : Nat} (h : w < 2 ^ n) : ∀ k, ones w (n + k) = ones w n
  | 0 => rfl
  | k + 1 => by
    rw [← Nat.add_assoc]
    show ones w (n + k) + w / 2 ^ (n + k) % 2 = ones w n
    rw [ones_above h k, Nat.div_eq_of_lt (Nat.lt_of_lt_of_le h (Nat.pow_le_pow_right (by omega) (by omega)))]; rfl
theorem ones_lt {w n : Nat} (h : w < 2 ^ n) (hn : n ≤ 16) : ones w 16 ≤ n := by
  have := ones_above h (16 - n)
  rw [show n + (16 - n) = 16 by omega] at this
  rw [this]
  exact ones_le w n
theorem or_lt {a b n : Nat} (ha : a < 2 ^ n) (hb : b < 2 ^ n) : a ||| b < 2 ^ n := Nat.or_lt_two_pow ha hb
theorem and_lt {a b n : Nat} (ha : a < 2 ^ n) : a &&& b < 2 ^ n := Nat.lt_of_le_of_lt Nat.and_le_left ha
theorem meets {a b n x y : Nat} (ha : a < 2 ^ n) (hb : b < 2 ^ n) (hn : n ≤ 16) (hx : x ≤ ones a 16) (hy : y ≤ ones b 16) : x + y ≤ ones (a &&& b) 16 + n := by
  have h1 := ones_and_or a b 16
  have h2 := ones_lt (or_lt ha hb) hn
  omega
/-- The table of math/bits. -/
def pop8 (x : Nat) : Nat := ones x 8
theorem ones_hi (w : Nat) : ∀ k, ones w (8 + k) = ones w 8 + ones (w / 2 ^ 8) k
  | 0 => rfl
  | k + 1 => by
    show ones w (8 + k) + w / 2 ^ (8 + k) % 2 = ones w 8 + (ones (w / 2 ^ 8) k + w / 2 ^ 8 / 2 ^ k % 2)
    rw [ones_hi w k, Nat.pow_add, Nat.div_div_eq_div_mul, Nat.add_assoc]
theorem ones_lo (w : Nat) : ∀ k, k ≤ 8 → ones (w % 2 ^ 8) k = ones w k
  | 0, _ => rfl
  | k + 1, hk => by
    show ones (w % 2 ^ 8) k + w % 2 ^ 8 / 2 ^ k % 2 = ones w k + w / 2 ^ k % 2
    rw [ones_lo w k (by omega), ones_bit, ones_bit, Nat.testBit_mod_two_pow, decide_eq_true (show k < 8 by omega), Bool.true_and]
theorem ones_split (w : Nat) : ones w (8 + 8) = ones (w / 2 ^ 8) 8 + ones (w % 2 ^ 8) 8 := by
  rw [ones_hi w 8, ones_lo w 8 (Nat.le_refl _), Nat.add_comm]

end Wm

/-
  The Hamming code of 15 bits as plain functions; its laws, which the kernel reckons over all words. No program in sight.
-/
namespace Wm

/-- The exclusive or of the first k positions whose bit is 1. -/
def hsum (w : Nat) : Nat → Nat
  | 0 => 0
  | k + 1 => if w / 2 ^ k % 2 = 1 then hsum w k ^^^ (k + 1) else hsum w k
/-- Is a position one of the parity bits? -/
def hpar (k : Nat) : Bool := Nat.land k (k - 1) == 0
/-- The data laid out: the word and the data that are left after k positions. -/
def hlay (d : Nat) : Nat → Nat × Nat
  | 0 => (0, d)
  | k + 1 => if hpar (k + 1) then hlay d k else ((hlay d k).1 ||| ((hlay d k).2 % 2 * 2 ^ k), (hlay d k).2 / 2)
/-- The parity bits set: j of them. -/
def hset (s w : Nat) : Nat → Nat
  | 0 => w
  | j + 1 => if Nat.land s (2 ^ j) = 0 then hset s w j else hset s w j ||| 2 ^ (2 ^ j - 1)
def hput (d : Nat) : Nat := hset (hsum (hlay d 15).1 15) (hlay d 15).1 4
/-- The data read off a word: the data and how many bits, after k positions. -/
def hread (w : Nat) : Nat → Nat × Nat
  | 0 => (0, 0)
  | k + 1 => if hpar (k + 1) then hread w k else ((hread w k).1 ||| (w / 2 ^ k % 2 * 2 ^ (hread w k).2), (hread w k).2 + 1)
def hfix (w : Nat) : Nat := if hsum w 15 = 0 then w else w ^^^ 2 ^ (hsum w 15 - 1)
def hget (w : Nat) : Nat := (hread (hfix w) 15).1

/-- How many bits of 16 are 1. -/
def ones16 (w : Nat) : Nat → Nat
  | 0 => 0
  | k + 1 => ones16 w k + w / 2 ^ k % 2

/-- The word by its data's bits. -/
def hlin (d : Nat) : Nat → Nat
  | 0 => 0
  | k + 1 => if d / 2 ^ k % 2 = 1 then hlin d k ^^^ hput (2 ^ k) else hlin d k

theorem c_lin : (List.range 2048).all (fun d => Nat.beq (hput d) (hlin d 11)) = true := by decide +kernel
theorem c_weight : (List.range 2047).all (fun d => Nat.ble 3 (ones16 (hput (d + 1)) 16)) = true := by decide +kernel
theorem c_sum : (List.range 2048).all (fun d => Nat.beq (hsum (hput d) 15) 0 && Nat.blt (hput d) 32768 && Nat.beq (hread (hput d) 15).1 d) = true := by decide +kernel
theorem c_all : (List.range 32768).all (fun c => !(Nat.beq (hsum c 15) 0) || (Nat.beq (hput (hread c 15).1) c && Nat.blt (hread c 15).1 2048)) = true := by decide +kernel
theorem c_bits : (List.range 15).all (fun k => Nat.beq (hsum (2 ^ k) 15) (k + 1)) = true := by decide +kernel

theorem xor_bit (a b k : Nat) : ((a ^^^ b) / 2 ^ k % 2 = 1) ↔ ¬ ((a / 2 ^ k % 2 = 1) ↔ (b / 2 ^ k % 2 = 1)) := by
  rw [Nat.xor_div_two_pow, Nat.xor_mod_two_eq_one]
theorem hx1 (o p x : Nat) : (o ^^^ x) ^^^ p = (o ^^^ p) ^^^ x := by rw [Nat.xor_assoc, Nat.xor_comm x p, ← Nat.xor_assoc]
theorem hx2 (o p x : Nat) : (o ^^^ x) ^^^ (p ^^^ x) = o ^^^ p := by
  rw [Nat.xor_comm p x, ← Nat.xor_assoc, Nat.xor_assoc o x x, Nat.xor_self, Nat.xor_zero]
theorem hsum_xor (a b : Nat) : ∀ k, hsum (a ^^^ b) k = hsum a k ^^^ hsum b k
  | 0 => by simp [hsum]
  | k + 1 => by
    simp only [hsum, hsum_xor a b k, xor_bit]
    by_cases ha : a / 2 ^ k % 2 = 1 <;> by_cases hb : b / 2 ^ k % 2 = 1 <;> simp only [ha, hb, not_true_eq_false, not_false_eq_true, if_true, if_false, iff_self, iff_false, iff_true]
    · rw [hx2]
    · rw [hx1]
    · rw [Nat.xor_assoc]
theorem hlin_xor (a b : Nat) : ∀ k, hlin (a ^^^ b) k = hlin a k ^^^ hlin b k
  | 0 => by simp [hlin]
  | k + 1 => by
    simp only [hlin, hlin_xor a b k, xor_bit]
    by_cases ha : a / 2 ^ k % 2 = 1 <;> by_cases hb : b / 2 ^ k % 2 = 1 <;> simp only [ha, hb, not_true_eq_false, not_false_eq_true, if_true, if_false, iff_self, iff_false, iff_true]
    · rw [hx2]
    · rw [hx1]
    · rw [Nat.xor_assoc]
theorem hput_lin {d : Nat} (h : d < 2048) : hput d = hlin d 11 := Nat.eq_of_beq_eq_true (List.all_eq_true.1 c_lin d (List.mem_range.2 h))
theorem hput_xor {a b : Nat} (ha : a < 2048) (hb : b < 2048) : hput (a ^^^ b) = hput a ^^^ hput b := by
  rw [hput_lin (Nat.xor_lt_two_pow (n := 11) ha hb), hput_lin ha, hput_lin hb, hlin_xor]
theorem hput_weight {d : Nat} (h0 : d ≠ 0) (h : d < 2048) : 3 ≤ ones16 (hput d) 16 := by
  have := List.all_eq_true.1 c_weight (d - 1) (List.mem_range.2 (by omega))
  rw [show d - 1 + 1 = d by omega] at this
  exact Nat.le_of_ble_eq_true this
theorem hput_spec {d : Nat} (h : d < 2048) : hsum (hput d) 15 = 0 ∧ hput d < 32768 ∧ (hread (hput d) 15).1 = d := by
  have := List.all_eq_true.1 c_sum d (List.mem_range.2 h)
  simp only [Bool.and_eq_true] at this
  exact ⟨Nat.eq_of_beq_eq_true this.1.1, by have := this.1.2; simp [Nat.blt] at this; omega, Nat.eq_of_beq_eq_true this.2⟩
theorem hread_spec {c : Nat} (h : c < 32768) (h0 : hsum c 15 = 0) : hput (hread c 15).1 = c ∧ (hread c 15).1 < 2048 := by
  have := List.all_eq_true.1 c_all c (List.mem_range.2 h)
  simp only [h0, Nat.beq_refl, Bool.not_true, Bool.false_or, Bool.and_eq_true] at this
  exact ⟨Nat.eq_of_beq_eq_true this.1, by have := this.2; simp [Nat.blt] at this; omega⟩
theorem hsum_bit {k : Nat} (h : k < 15) : hsum (2 ^ k) 15 = k + 1 := Nat.eq_of_beq_eq_true (List.all_eq_true.1 c_bits k (List.mem_range.2 h))
theorem hsum_lt (w : Nat) : ∀ k, k ≤ 15 → hsum w k < 16
  | 0, _ => by simp [hsum]
  | k + 1, h => by
    have := hsum_lt w k (by omega)
    simp only [hsum]
    split
    · exact Nat.xor_lt_two_pow (n := 4) this (by omega)
    · exact this
theorem bit_lt {k : Nat} (h : k < 15) : 2 ^ k < 32768 := Nat.pow_lt_pow_right (by omega) (show k < 15 from h)
theorem hfix_spec {w : Nat} (h : w < 32768) : hfix w < 32768 ∧ hsum (hfix w) 15 = 0 := by
  unfold hfix
  split
  · exact ⟨h, by assumption⟩
  · have hl := hsum_lt w 15 (by omega)
    refine ⟨Nat.xor_lt_two_pow (n := 15) h (bit_lt (by omega)), ?_⟩
    rw [hsum_xor, hsum_bit (by omega), show hsum w 15 - 1 + 1 = hsum w 15 by omega, Nat.xor_self]
/-- One bit turned. -/
theorem hone {d k : Nat} (hd : d < 2048) (hk : k < 15) : hsum (hput d ^^^ 2 ^ k) 15 = k + 1 ∧ hput d ^^^ 2 ^ k < 32768 ∧ hget (hput d ^^^ 2 ^ k) = d := by
  obtain ⟨h1, h2, h3⟩ := hput_spec hd
  have hs : hsum (hput d ^^^ 2 ^ k) 15 = k + 1 := by rw [hsum_xor, h1, hsum_bit hk, Nat.zero_xor]
  refine ⟨hs, Nat.xor_lt_two_pow (n := 15) h2 (bit_lt hk), ?_⟩
  unfold hget hfix
  rw [hs, if_neg (by omega), Nat.add_sub_cancel, Nat.xor_assoc, Nat.xor_self, Nat.xor_zero, h3]
theorem hnone {d : Nat} (hd : d < 2048) : hget (hput d) = d := by
  obtain ⟨h1, h2, h3⟩ := hput_spec hd
  unfold hget hfix
  rw [if_pos h1, h3]
theorem ones16_le (w : Nat) : ∀ k, ones16 w k ≤ k
  | 0 => by simp [ones16]
  | k + 1 => by have := ones16_le w k; simp only [ones16]; omega
theorem mod_mul_lt (b k : Nat) : b % 2 * 2 ^ k < 2 ^ (k + 1) := by
  have h1 : b % 2 ≤ 1 := by omega
  have h2 : 0 < 2 ^ k := Nat.pow_pos (by omega)
  have h3 := Nat.mul_le_mul_right (2 ^ k) h1
  rw [Nat.pow_succ]
  omega
theorem hlay_lt (d : Nat) : ∀ k, (hlay d k).1 < 2 ^ k ∧ (hlay d k).2 ≤ d
  | 0 => by simp [hlay]
  | k + 1 => by
    have h := hlay_lt d k
    have h2 : 2 ^ k < 2 ^ (k + 1) := Nat.pow_lt_pow_right (by omega) (by omega)
    simp only [hlay]
    split
    · exact ⟨by omega, h.2⟩
    · refine ⟨Nat.or_lt_two_pow (by omega) (mod_mul_lt _ k), ?_⟩
      have := h.2
      simp only
      omega
theorem hset_lt (s w : Nat) (hw : w < 32768) : ∀ j, j ≤ 4 → hset s w j < 32768
  | 0, _ => hw
  | j + 1, h => by
    have ih := hset_lt s w hw j (by omega)
    simp only [hset]
    split
    · exact ih
    · refine Nat.or_lt_two_pow (n := 15) ih ?_
      obtain rfl | rfl | rfl | rfl : j = 0 ∨ j = 1 ∨ j = 2 ∨ j = 3 := by omega
      all_goals decide
theorem hread_lt (w : Nat) : ∀ k, (hread w k).1 < 2 ^ (hread w k).2 ∧ (hread w k).2 ≤ k
  | 0 => by simp [hread]
  | k + 1 => by
    have h := hread_lt w k
    simp only [hread]
    split
    · exact ⟨h.1, by omega⟩
    · have h2 : 2 ^ (hread w k).2 < 2 ^ ((hread w k).2 + 1) := Nat.pow_lt_pow_right (by omega) (by omega)
      exact ⟨Nat.or_lt_two_pow (n := (hread w k).2 + 1) (by omega) (mod_mul_lt _ _), by simp only; omega⟩

end Wm

/-
  A string of which one byte is turned has another checksum.
-/
import Derived.Test.YtekkghhihnnpjaaDoorPiece0
set_option linter.unusedVariables false
set_option linter.unusedSimpArgs false
namespace Go.Proofs.YtekkghhihnnpjaaDoor

theorem xor_back (a b : Nat) : (a ^^^ b) ^^^ b = a := by rw [Nat.xor_assoc, Nat.xor_self, Nat.xor_zero]
theorem xor_inj {a b c : Nat} (h : a ^^^ c = b ^^^ c) : a = b := by
  have := congrArg (· ^^^ c) h
  simpa [xor_back] using this
theorem crc1_inj {x y : Nat} (hx : x < 4294967296) (hy : y < 4294967296) (h : crc1 x = crc1 y) : x = y := by
  have odd : ∀ a b : Nat, a < 2147483648 → b < 2147483648 → a ^^^ 2197175160 ≠ b := fun a b ha hb e => by
    have h1 : a ^^^ b < 2 ^ 31 := Nat.xor_lt_two_pow (by omega) (by omega)
    rw [← e, ← Nat.xor_assoc, Nat.xor_self, Nat.zero_xor] at h1
    omega
  unfold crc1 at h
  split at h <;> split at h
  · have := xor_inj h; omega
  · exact absurd h (odd _ _ (by omega) (by omega))
  · exact absurd h.symm (odd _ _ (by omega) (by omega))
  · omega
theorem crcN_inj {x y : Nat} (hx : x < 4294967296) (hy : y < 4294967296) : ∀ k, crcN k x = crcN k y → x = y
  | 0, h => h
  | k + 1, h => crcN_inj hx hy k (crc1_inj (crcN_lt hx k) (crcN_lt hy k) h)
theorem crcS_same (s t : Nat → Nat) : ∀ n, (∀ k, k < n → s k = t k) → crcS s n = crcS t n
  | 0, _ => rfl
  | n + 1, h => by
    show crcN 8 (crcS s n ^^^ s n) = crcN 8 (crcS t n ^^^ t n)
    rw [crcS_same s t n (fun k hk => h k (by omega)), h n (by omega)]
theorem crcS_ne (s t : Nat → Nat) (hs : ∀ k, s k < 256) (ht : ∀ k, t k < 256) (j : Nat) (hj : s j ≠ t j) : ∀ n, j < n → (∀ k, k < n → k ≠ j → s k = t k) → crcS s n ≠ crcS t n
  | 0, h, _ => by omega
  | n + 1, hn, h => fun e => by
    have b1 : crcS s n ^^^ s n < 2 ^ 32 := Nat.xor_lt_two_pow (by have := crcS_lt s hs n; omega) (by have := hs n; omega)
    have b2 : crcS t n ^^^ t n < 2 ^ 32 := Nat.xor_lt_two_pow (by have := crcS_lt t ht n; omega) (by have := ht n; omega)
    have e1 : crcS s n ^^^ s n = crcS t n ^^^ t n := crcN_inj (by omega) (by omega) 8 e
    by_cases hjn : j = n
    · subst hjn
      rw [crcS_same s t j (fun k hk => h k (by omega) (by omega)), Nat.xor_comm _ (s j), Nat.xor_comm _ (t j)] at e1
      exact hj (xor_inj e1)
    · rw [h n (by omega) (fun e => hjn e.symm)] at e1
      exact crcS_ne s t hs ht j hj n (by omega) (fun k hk => h k (by omega)) (xor_inj e1)
/-- The checksum tells one byte that is turned. -/
theorem sum_tells (s t : Nat → Nat) (hs : ∀ k, s k < 256) (ht : ∀ k, t k < 256) (j n : Nat) (hj : s j ≠ t j) (hn : j < n) (h : ∀ k, k < n → k ≠ j → s k = t k) : 4294967295 ^^^ crcS s n ≠ 4294967295 ^^^ crcS t n := fun e => by
  rw [Nat.xor_comm, Nat.xor_comm 4294967295] at e
  exact crcS_ne s t hs ht j hj n hn h (xor_inj e)
end Go.Proofs.YtekkghhihnnpjaaDoor

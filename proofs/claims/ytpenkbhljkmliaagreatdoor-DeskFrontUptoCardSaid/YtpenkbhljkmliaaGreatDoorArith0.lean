/-
  Plain facts on integers: remainders that truncate, greatest common divisors. No program in sight.
-/
set_option linter.unusedVariables false
set_option linter.unusedSimpArgs false
namespace Wm

theorem tmod_bound (k : Int) {n : Int} (hn : 0 < n) : - n < k.tmod n ∧ k.tmod n < n := by
  have h : (k.tmod n).natAbs < n.natAbs := by
    rw [Int.natAbs_tmod]
    exact Nat.mod_lt _ (Int.natAbs_pos.2 (by omega))
  omega
theorem tmod_emod (k n : Int) : k.tmod n % n = k % n := by
  rw [Int.tmod_def, Int.sub_emod, Int.mul_emod_right, Int.sub_zero, Int.emod_emod_of_dvd _ (Int.dvd_refl n)]
theorem emod_of_tmod_neg {k n : Int} (hn : 0 < n) (h : k.tmod n < 0) : k.tmod n + n = k % n := by
  have hb := tmod_bound k hn
  rw [← tmod_emod k n, ← Int.add_emod_right, Int.emod_eq_of_lt (by omega) (by omega)]
theorem emod_of_tmod_pos {k n : Int} (hn : 0 < n) (h : ¬ k.tmod n < 0) : k.tmod n = k % n := by
  have hb := tmod_bound k hn
  rw [← tmod_emod k n, Int.emod_eq_of_lt (by omega) (by omega)]
theorem tmod_abs (a : Int) {b : Int} (hb : b ≠ 0) : (a.tmod b).natAbs < b.natAbs := by
  rw [Int.natAbs_tmod]
  exact Nat.mod_lt _ (Int.natAbs_pos.2 hb)
theorem gcd_tmod (a b : Int) : Int.gcd b (a.tmod b) = Int.gcd a b := by
  rw [Int.tmod_def, Int.gcd_sub_mul_left_right, Int.gcd_comm]
theorem emod_bound (k : Int) {n : Int} (hn : 0 < n) : 0 ≤ k % n ∧ k % n < n := ⟨Int.emod_nonneg k (by omega), Int.emod_lt_of_pos k hn⟩
theorem tmod_eq_zero_of_dvd {a b : Int} (h : b ∣ a) : a.tmod b = 0 := (Int.dvd_iff_tmod_eq_zero).1 h
theorem gcd_le_bound {a b : Int} {M : Nat} (ha : a.natAbs ≤ M) (hb : b.natAbs ≤ M) : Int.gcd a b ≤ M := by
  by_cases h : a = 0
  · subst h; simpa using hb
  · exact Nat.le_trans (Int.gcd_le_natAbs_left b h) ha

theorem mul_bound (x y : Int) (M N : Nat) (hx : x.natAbs ≤ M) (hy : y.natAbs ≤ N) : (x * y).natAbs ≤ M * N := by
  rw [Int.natAbs_mul]
  exact Nat.mul_le_mul hx hy
theorem tdiv_bound (a g : Int) (M : Nat) (h : a.natAbs ≤ M) : (a.tdiv g).natAbs ≤ M := by
  rw [Int.natAbs_tdiv]
  exact Nat.le_trans (Nat.div_le_self _ _) h

end Wm

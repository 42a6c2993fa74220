/-
  The greatest common divisor goes over the least common multiple. No program in sight.
-/
namespace Wm

theorem gcd_lcm (a b c : Nat) : Nat.gcd a (Nat.lcm b c) = Nat.lcm (Nat.gcd a b) (Nat.gcd a c) := by
  apply Nat.dvd_antisymm
  · generalize hd : Nat.gcd a (Nat.lcm b c) = d
    have h1 : d ∣ a := hd ▸ Nat.gcd_dvd_left _ _
    have h2 : d ∣ Nat.lcm b c := hd ▸ Nat.gcd_dvd_right _ _
    rcases Nat.eq_zero_or_pos d with h0 | h0
    · subst h0
      have ha : a = 0 := Nat.eq_zero_of_zero_dvd h1
      subst ha
      have : Nat.lcm b c = 0 := by simpa using hd
      simpa using this
    · have k1 : Nat.gcd d b ∣ Nat.gcd a b := Nat.gcd_dvd_gcd_of_dvd_left b h1
      have k2 : Nat.gcd d c ∣ Nat.gcd a c := Nat.gcd_dvd_gcd_of_dvd_left c h1
      refine Nat.dvd_trans ?_ (Nat.lcm_dvd (Nat.dvd_trans k1 (Nat.dvd_lcm_left _ _)) (Nat.dvd_trans k2 (Nat.dvd_lcm_right _ _)))
      have e1 : Nat.gcd (Nat.gcd d b) (Nat.gcd d c) = Nat.gcd d (Nat.gcd b c) := by
        apply Nat.dvd_antisymm
        · exact Nat.dvd_gcd (Nat.dvd_trans (Nat.gcd_dvd_left _ _) (Nat.gcd_dvd_left _ _)) (Nat.dvd_gcd (Nat.dvd_trans (Nat.gcd_dvd_left _ _) (Nat.gcd_dvd_right _ _)) (Nat.dvd_trans (Nat.gcd_dvd_right _ _) (Nat.gcd_dvd_right _ _)))
        · exact Nat.dvd_gcd (Nat.dvd_gcd (Nat.gcd_dvd_left _ _) (Nat.dvd_trans (Nat.gcd_dvd_right _ _) (Nat.gcd_dvd_left _ _))) (Nat.dvd_gcd (Nat.gcd_dvd_left _ _) (Nat.dvd_trans (Nat.gcd_dvd_right _ _) (Nat.gcd_dvd_right _ _)))
      have hbc : d * Nat.gcd b c ∣ b * c := by
        rw [← Nat.gcd_mul_lcm b c, Nat.mul_comm]
        exact Nat.mul_dvd_mul_left _ h2
      have hdiv : Nat.gcd d (Nat.gcd b c) * d ∣ Nat.gcd d b * Nat.gcd d c := by
        have e2 : Nat.gcd d b * Nat.gcd d c = Nat.gcd (Nat.gcd (d * d) (d * c)) (Nat.gcd (b * d) (b * c)) := by
          rw [Nat.gcd_mul_left, Nat.gcd_mul_left, Nat.gcd_mul_right]
        have e3 : Nat.gcd d (Nat.gcd b c) * d = Nat.gcd (d * d) (Nat.gcd b c * d) := by rw [Nat.gcd_mul_right]
        have dvd1 : Nat.gcd d (Nat.gcd b c) * d ∣ d * d := Nat.mul_dvd_mul_right (Nat.gcd_dvd_left _ _) d
        have dvd2 : Nat.gcd d (Nat.gcd b c) * d ∣ d * c := by
          rw [Nat.mul_comm d c]; exact Nat.mul_dvd_mul_right (Nat.dvd_trans (Nat.gcd_dvd_right _ _) (Nat.gcd_dvd_right _ _)) d
        have dvd3 : Nat.gcd d (Nat.gcd b c) * d ∣ b * d := Nat.mul_dvd_mul_right (Nat.dvd_trans (Nat.gcd_dvd_right _ _) (Nat.gcd_dvd_left _ _)) d
        have dvd4 : Nat.gcd d (Nat.gcd b c) * d ∣ b * c := by
          refine Nat.dvd_trans ?_ hbc
          rw [Nat.mul_comm]; exact Nat.mul_dvd_mul_left d (Nat.gcd_dvd_right _ _)
        rw [e2]
        exact Nat.dvd_gcd (Nat.dvd_gcd dvd1 dvd2) (Nat.dvd_gcd dvd3 dvd4)
      rw [← Nat.gcd_mul_lcm (Nat.gcd d b) (Nat.gcd d c), e1] at hdiv
      exact Nat.dvd_of_mul_dvd_mul_left (Nat.gcd_pos_of_pos_left _ h0) hdiv
  · exact Nat.lcm_dvd (Nat.dvd_gcd (Nat.gcd_dvd_left _ _) (Nat.dvd_trans (Nat.gcd_dvd_right _ _) (Nat.dvd_lcm_left _ _)))
      (Nat.dvd_gcd (Nat.gcd_dvd_left _ _) (Nat.dvd_trans (Nat.gcd_dvd_right _ _) (Nat.dvd_lcm_right _ _)))

theorem int_gcd_lcm (a b c : Int) : Int.gcd a (Int.lcm b c : Int) = Int.lcm (Int.gcd a b : Int) (Int.gcd a c : Int) := by
  simp only [Int.gcd_eq_natAbs_gcd_natAbs, Int.lcm_eq_natAbs_lcm_natAbs, Int.natAbs_natCast]
  exact gcd_lcm _ _ _

theorem lcm_le_bound {a b : Int} {M N : Nat} (ha : a.natAbs ≤ M) (hb : b.natAbs ≤ N) : Int.lcm a b ≤ M * N := by
  rw [Int.lcm_eq_natAbs_lcm_natAbs]
  rcases Nat.eq_zero_or_pos (a.natAbs * b.natAbs) with h | h
  · rcases Nat.mul_eq_zero.1 h with h | h <;> simp [h]
  · exact Nat.le_trans (Nat.le_of_dvd h (Nat.lcm_dvd_mul _ _)) (Nat.mul_le_mul ha hb)

end Wm

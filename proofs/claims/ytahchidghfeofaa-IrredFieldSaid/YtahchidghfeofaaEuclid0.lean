/-
  Plain facts on the Euclidean algorithm: the number of its steps, Lame's theorem. No program in sight.
-/
set_option linter.unusedVariables false
set_option linter.unusedSimpArgs false
namespace Wm

/-- The number of divisions. -/
def nsteps (a b : Nat) : Nat := if b = 0 then 0 else nsteps b (a % b) + 1
termination_by b
decreasing_by exact Nat.mod_lt _ (by omega)

theorem nsteps_zero (a : Nat) : nsteps a 0 = 0 := by rw [nsteps]; simp
theorem nsteps_pos (a b : Nat) (h : 0 < b) : nsteps a b = nsteps b (a % b) + 1 := by rw [nsteps]; rw [if_neg (by omega)]

theorem nsteps_le (a b : Nat) : nsteps a b ≤ b := by
  induction b using Nat.strongRecOn generalizing a with
  | _ b ih =>
    rcases Nat.eq_zero_or_pos b with rfl | h
    · rw [nsteps_zero]; omega
    · rw [nsteps_pos a b h]
      have := ih (a % b) (Nat.mod_lt _ h) b
      have := Nat.mod_lt a h
      omega

/-- The pair of neighbours in Fibonacci's sequence after k turns. -/
def fibs : Nat → Nat × Nat
  | 0 => (1, 1)
  | k + 1 => ((fibs k).2, (fibs k).1 + (fibs k).2)

theorem fibs_pos (k : Nat) : 0 < (fibs k).1 ∧ (fibs k).1 ≤ (fibs k).2 := by
  induction k with
  | zero => simp [fibs]
  | succ k ih => simp only [fibs]; omega

/-- Lame: after k + 1 divisions. -/
theorem lame (k : Nat) : ∀ a b, nsteps a b = k + 1 → (fibs k).2 ≤ b ∧ (a ≤ b ∨ (fibs k).1 + (fibs k).2 ≤ a) := by
  induction k with
  | zero =>
    intro a b h
    have hb : 0 < b := by
      rcases Nat.eq_zero_or_pos b with rfl | h'
      · rw [nsteps_zero] at h; omega
      · exact h'
    simp only [fibs]
    omega
  | succ k ih =>
    intro a b h
    have hb : 0 < b := by
      rcases Nat.eq_zero_or_pos b with rfl | h'
      · rw [nsteps_zero] at h; omega
      · exact h'
    rw [nsteps_pos a b hb] at h
    have hm := Nat.mod_lt a hb
    obtain ⟨h1, h2⟩ := ih b (a % b) (by omega)
    have hp := fibs_pos k
    simp only [fibs]
    refine ⟨by omega, ?_⟩
    rcases Nat.lt_or_ge b a with hab | hab
    · right
      have := Nat.div_add_mod a b
      have hq : 1 ≤ a / b := (Nat.le_div_iff_mul_le hb).2 (by omega)
      have : b * 1 ≤ b * (a / b) := Nat.mul_le_mul_left _ hq
      omega
    · left; omega

theorem lame' {n a b : Nat} (h : nsteps a b = n) (hn : 0 < n) : (fibs (n - 1)).2 ≤ b ∧ (a ≤ b ∨ (fibs (n - 1)).1 + (fibs (n - 1)).2 ≤ a) :=
  lame (n - 1) a b (by omega)

theorem fibs_mono (k m : Nat) (h : k ≤ m) : (fibs k).1 ≤ (fibs m).1 ∧ (fibs k).2 ≤ (fibs m).2 := by
  induction m with
  | zero => have : k = 0 := by omega
            subst this; omega
  | succ m ih =>
    rcases Nat.lt_or_ge k (m + 1) with h' | h'
    · have := ih (by omega)
      have := fibs_pos m
      simp only [fibs]; omega
    · have : k = m + 1 := by omega
      subst this; omega

end Wm

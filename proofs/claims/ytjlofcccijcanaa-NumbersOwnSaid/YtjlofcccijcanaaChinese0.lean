/-
  Plain facts on systems of congruences: when a number with its modulus tells all solutions, and how one congruence more is joined. No program in sight.
-/
set_option linter.unusedVariables false
set_option linter.unusedSimpArgs false
namespace Wm

def Fits (t : Nat) (l : List (Nat × Nat)) : Prop := ∀ x ∈ l, t % x.2 = x.1
/-- All solutions of a system are told by one remainder. -/
def Joined (l : List (Nat × Nat)) (n m : Nat) : Prop := n < m ∧ ∀ t, Fits t l ↔ t % m = n

theorem Joined.nil : Joined [] 0 1 := ⟨by omega, fun t => ⟨fun _ => by omega, fun _ x hx => by simp at hx⟩⟩
theorem Joined.fits {l n m} (h : Joined l n m) : Fits n l := (h.2 n).2 (Nat.mod_eq_of_lt h.1)
theorem Joined.pos {l n m} (h : Joined l n m) : 0 < m := by have := h.1; omega

theorem dvd_natAbs {m : Nat} {a : Int} (h : (m : Int) ∣ a) : m ∣ a.natAbs := by
  have := Int.natAbs_dvd_natAbs.2 h
  rwa [Int.natAbs_natCast] at this
theorem dvd_of_natAbs {m : Nat} {a : Int} (h : m ∣ a.natAbs) : (m : Int) ∣ a := by
  rw [← Int.natAbs_dvd_natAbs, Int.natAbs_natCast]; exact h
theorem dvd_of_shift {n p q : Nat} (h : (n + p) % q = (n + 0) % q) : q ∣ p := by
  have h1 : (((n + p : Nat) : Int)) % (q : Int) = (((n + 0 : Nat) : Int)) % (q : Int) := by
    have := congrArg (fun x : Nat => (x : Int)) h
    simpa using this
  have h2 := Int.dvd_of_emod_eq_zero (Int.emod_eq_emod_iff_emod_sub_eq_zero.1 h1)
  have h3 : ((n + p : Nat) : Int) - ((n + 0 : Nat) : Int) = (p : Int) := by omega
  rw [h3] at h2
  exact_mod_cast h2

theorem Joined.unique {l n m n' m'} (h : Joined l n m) (h' : Joined l n' m') : n = n' ∧ m = m' := by
  have a1 : n % m' = n' := (h'.2 n).1 h.fits
  have a2 : n' % m = n := (h.2 n').1 h'.fits
  have b1 : n' ≤ n := by rw [← a1]; exact Nat.mod_le _ _
  have b2 : n ≤ n' := by rw [← a2]; exact Nat.mod_le _ _
  obtain rfl : n = n' := by omega
  refine ⟨rfl, ?_⟩
  have c1 : (n + m) % m' = n := (h'.2 (n + m)).1 ((h.2 _).2 (by rw [Nat.add_mod_right]; exact a2))
  have c2 : (n + m') % m = n := (h.2 (n + m')).1 ((h'.2 _).2 (by rw [Nat.add_mod_right]; exact a1))
  have d : ∀ {p q : Nat}, n < q → (n + p) % q = n → q ∣ p := fun {p q} hq hh => by
    have h1 : (n + p) % q = (n + 0) % q := by rw [hh, Nat.add_zero, Nat.mod_eq_of_lt hq]
    exact dvd_of_shift h1
  exact Nat.dvd_antisymm (d h.1 c2) (d h'.1 c1)

theorem fits_snoc {t : Nat} {l : List (Nat × Nat)} {x : Nat × Nat} : Fits t (l ++ [x]) ↔ Fits t l ∧ t % x.2 = x.1 := by
  unfold Fits
  constructor
  · intro h; exact ⟨fun y hy => h y (by simp [hy]), h x (by simp)⟩
  · rintro ⟨h1, h2⟩ y hy
    simp only [List.mem_append, List.mem_singleton] at hy
    rcases hy with hy | rfl
    · exact h1 y hy
    · exact h2

theorem lcm_form (m M : Nat) : m * (M / Nat.gcd (m % M) M) = Nat.lcm m M := by
  have hg : Nat.gcd (m % M) M = Nat.gcd m M := by rw [Nat.gcd_comm m M, Nat.gcd_rec M m]
  rw [hg, Nat.lcm, Nat.mul_div_assoc _ (Nat.gcd_dvd_right m M)]

/-- One congruence more, of which a number k of steps has been found. -/
theorem Joined.step {l n m R M k} (h : Joined l n m) (hM : 0 < M) (hk : k < M / Nat.gcd (m % M) M) (hf : (n + k * m) % M = R) :
    Joined (l ++ [(R, M)]) (n + k * m) (m * (M / Nat.gcd (m % M) M)) := by
  have hlcm := lcm_form m M
  have hnm := h.1
  have hlt : n + k * m < m * (M / Nat.gcd (m % M) M) := by
    have : (k + 1) * m ≤ (M / Nat.gcd (m % M) M) * m := Nat.mul_le_mul_right m hk
    rw [Nat.mul_comm (M / _) m] at this
    rw [Nat.add_mul] at this
    omega
  refine ⟨hlt, fun t => ?_⟩
  rw [fits_snoc, h.2 t]
  rw [hlcm] at hlt ⊢
  have e1 : (n + k * m) % m = n := by rw [Nat.add_mul_mod_self_right]; exact Nat.mod_eq_of_lt hnm
  constructor
  · rintro ⟨h1, h2⟩
    have d1 : m ∣ (Int.natAbs ((t : Int) - ((n + k * m : Nat) : Int))) := by
      have : (m : Int) ∣ (t : Int) - ((n + k * m : Nat) : Int) := by
        apply Int.dvd_of_emod_eq_zero
        apply Int.emod_eq_emod_iff_emod_sub_eq_zero.1
        have : ((t % m : Nat) : Int) = (((n + k * m) % m : Nat) : Int) := by rw [h1, e1]
        simpa using this
      exact dvd_natAbs this
    have d2 : M ∣ (Int.natAbs ((t : Int) - ((n + k * m : Nat) : Int))) := by
      have : (M : Int) ∣ (t : Int) - ((n + k * m : Nat) : Int) := by
        apply Int.dvd_of_emod_eq_zero
        apply Int.emod_eq_emod_iff_emod_sub_eq_zero.1
        have : ((t % M : Nat) : Int) = (((n + k * m) % M : Nat) : Int) := by rw [h2, hf]
        simpa using this
      exact dvd_natAbs this
    have d3 := Nat.lcm_dvd d1 d2
    have d4 : ((Nat.lcm m M : Nat) : Int) ∣ (t : Int) - ((n + k * m : Nat) : Int) := dvd_of_natAbs d3
    have d5 := Int.emod_eq_emod_iff_emod_sub_eq_zero.2 (Int.emod_eq_zero_of_dvd d4)
    have d6 : t % Nat.lcm m M = (n + k * m) % Nat.lcm m M := by
      have : ((t % Nat.lcm m M : Nat) : Int) = (((n + k * m) % Nat.lcm m M : Nat) : Int) := by simpa using d5
      exact_mod_cast this
    rw [d6, Nat.mod_eq_of_lt hlt]
  · intro h1
    refine ⟨?_, ?_⟩
    · rw [← Nat.mod_mod_of_dvd t (Nat.dvd_lcm_left m M), h1, e1]
    · show t % M = R
      rw [← Nat.mod_mod_of_dvd t (Nat.dvd_lcm_right m M), h1, hf]

/-- .. and where there is none, there is no solution. -/
theorem Joined.none {l n m R M} (h : Joined l n m) (hM : 0 < M) (hno : ∀ k, k < M / Nat.gcd (m % M) M → (n + k * m) % M ≠ R) : ¬ ∃ t, Fits t (l ++ [(R, M)]) := by
  rintro ⟨t, ht⟩
  obtain ⟨h1, h2⟩ := fits_snoc.1 ht
  have h1 := (h.2 t).1 h1
  have h2 : t % M = R := h2
  have hg : 0 < M / Nat.gcd (m % M) M := Nat.div_pos (Nat.le_of_dvd hM (Nat.gcd_dvd_right _ _)) (Nat.gcd_pos_of_pos_right _ hM)
  generalize hG : M / Nat.gcd (m % M) M = G at *
  have ht : t = n + t / m * m := by rw [← h1, Nat.mod_add_div']
  refine hno (t / m % G) (Nat.mod_lt _ hg) ?_
  have hd : M ∣ m * G := by rw [← hG, lcm_form]; exact Nat.dvd_lcm_right m M
  obtain ⟨c, hc⟩ := hd
  have e : t = n + (t / m % G) * m + M * (c * (t / m / G)) := by
    have h3 : t / m = t / m % G + G * (t / m / G) := (Nat.mod_add_div _ _).symm
    have h4 : t / m * m = (t / m % G) * m + (m * G) * (t / m / G) := by
      have : t / m * m = (t / m % G + G * (t / m / G)) * m := by rw [← h3]
      rw [this, Nat.add_mul, Nat.mul_comm m G, Nat.mul_right_comm]
    rw [hc, Nat.mul_assoc] at h4
    omega
  have e2 : t % M = (n + (t / m % G) * m) % M := by
    have := congrArg (· % M) e
    simpa [Nat.add_mul_mod_self_left] using this
  rw [← e2, h2]

theorem Fits.mono {t : Nat} {l l' : List (Nat × Nat)} (h : Fits t l) (hs : ∀ x ∈ l', x ∈ l) : Fits t l' := fun x hx => h x (hs x hx)
/-- Whatever order: one solution set, one answer. -/
theorem Joined.of_same {l l' n m} (h : Joined l n m) (hs : ∀ t, Fits t l ↔ Fits t l') : Joined l' n m := ⟨h.1, fun t => (hs t).symm.trans (h.2 t)⟩
/-- What is joined of a part is told by what is joined of all. -/
theorem Joined.part {l l' n m n' m'} (h : Joined l n m) (h' : Joined l' n' m') (hs : ∀ x ∈ l', x ∈ l) : m % m' = 0 ∧ n % m' = n' := by
  have a1 : n % m' = n' := (h'.2 n).1 (h.fits.mono hs)
  have a2 : (n + m) % m' = n' := (h'.2 (n + m)).1 (((h.2 (n + m)).2 (by rw [Nat.add_mod_right]; exact Nat.mod_eq_of_lt h.1)).mono hs)
  refine ⟨?_, a1⟩
  have h1 : (n + m) % m' = (n + 0) % m' := by rw [a2, Nat.add_zero, a1]
  exact Nat.mod_eq_zero_of_dvd (dvd_of_shift h1)

end Wm

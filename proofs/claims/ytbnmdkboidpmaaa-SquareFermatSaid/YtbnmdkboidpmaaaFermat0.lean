/-
  FERMAT: a prime is a sum of two squares just if it does not leave 3, divided by 4. No program in sight.
-/
import Derived.Test.YtbnmdkboidpmaaaLegendre0
namespace Wm

theorem map_nodup {f : Nat → Nat} : ∀ {l : List Nat}, l.Nodup → (∀ x ∈ l, ∀ y ∈ l, f x = f y → x = y) → (l.map f).Nodup
  | [], _, _ => by simp
  | x :: l, h1, h2 => by
    rw [List.nodup_cons] at h1
    rw [List.map_cons, List.nodup_cons]
    refine ⟨fun hm => ?_, map_nodup h1.2 fun a ha b hb => h2 a (by simp [ha]) b (by simp [hb])⟩
    obtain ⟨y, hy, e⟩ := List.mem_map.1 hm
    have := h2 y (by simp [hy]) x (by simp) e
    exact h1.1 (this ▸ hy)
/-- More things than places. -/
theorem pigeon {m n : Nat} (f : Nat → Nat) (hf : ∀ k, k < m → f k < n) (h : n < m) : ∃ i j, i < m ∧ j < m ∧ i ≠ j ∧ f i = f j := by
  refine Classical.byContradiction fun hno => ?_
  have hinj : ∀ x ∈ List.range m, ∀ y ∈ List.range m, f x = f y → x = y := fun x hx y hy e =>
    Classical.byContradiction fun hne => hno ⟨x, y, List.mem_range.1 hx, List.mem_range.1 hy, hne, e⟩
  have hd := map_nodup (f := f) List.nodup_range hinj
  have hp := perm_of_subset hd (List.nodup_range (n := n)) (fun x hx => by
    obtain ⟨k, hk, rfl⟩ := List.mem_map.1 hx
    exact List.mem_range.2 (hf k (List.mem_range.1 hk))) (by simp; omega)
  have := hp.length_eq
  simp at this
  omega

theorem sqrt_exists (n : Nat) : ∃ s, s * s ≤ n ∧ n < (s + 1) * (s + 1) := by
  induction n with
  | zero => exact ⟨0, by omega, by omega⟩
  | succ n ih =>
    obtain ⟨s, h1, h2⟩ := ih
    by_cases h : n + 1 < (s + 1) * (s + 1)
    · exact ⟨s, by omega, h⟩
    · refine ⟨s + 1, by omega, ?_⟩
      have : (s + 1 + 1) * (s + 1 + 1) = (s + 1) * (s + 1) + 2 * (s + 1) + 1 := by simp only [Nat.mul_add, Nat.add_mul, Nat.mul_one, Nat.one_mul]; omega
      omega

theorem neg_one_square {p : Nat} (hp : Prime p) (h1 : p % 4 = 1) : ∃ x, x < p ∧ x * x % p = p - 1 := by
  have hp1 := hp.1
  have h3 : 3 ≤ p := by omega
  refine Classical.byContradiction fun hno => ?_
  have hd : ¬ p ∣ p - 1 := not_dvd_of_lt (by omega) (by omega)
  have h := euler_non hp h3 hd fun x hx e => hno ⟨x, hx, by rw [e]; exact Nat.mod_eq_of_lt (by omega)⟩
  obtain ⟨k, hk⟩ : ∃ k, (p - 1) / 2 = 2 * k := ⟨(p - 1) / 4, by omega⟩
  have hpp : (p - 1) * (p - 1) % p = 1 := by
    obtain ⟨s, rfl⟩ : ∃ s, p = s + 1 + 1 := ⟨p - 2, by omega⟩
    rw [show s + 1 + 1 - 1 = s + 1 by omega]
    have : (s + 1) * (s + 1) = 1 + s * (s + 1 + 1) := by simp only [Nat.mul_add, Nat.add_mul, Nat.mul_one, Nat.one_mul]; omega
    rw [this, Nat.add_mul_mod_self_right]
    exact Nat.mod_eq_of_lt (by omega)
  rw [hk, Nat.pow_mul, Nat.pow_two, pow_mod_cong (b := 1) (by rw [hpp, Nat.mod_eq_of_lt hp1]), Nat.one_pow, Nat.mod_eq_of_lt hp1] at h
  omega

theorem sq_le_sq {x s : Int} (h1 : -s ≤ x) (h2 : x ≤ s) : x * x ≤ s * s := by
  have hs : 0 ≤ s := by omega
  have h := Int.mul_nonneg (show 0 ≤ s - x by omega) (show 0 ≤ s + x by omega)
  have e : (s - x) * (s + x) = s * s - x * x := by rw [Int.sub_mul, Int.mul_add, Int.mul_add, Int.mul_comm x s]; omega
  omega
theorem sq_pos {x : Int} (h : x ≠ 0) : 0 < x * x := by
  rcases Int.lt_trichotomy x 0 with h1 | h1 | h1
  · have := Int.mul_pos_of_neg_of_neg h1 h1; exact this
  · exact absurd h1 h
  · exact Int.mul_pos h1 h1

theorem two_squares {p : Nat} (hp : Prime p) (h1 : p % 4 = 1) : ∃ x y : Nat, x * x + y * y = p := by
  have hp1 := hp.1
  obtain ⟨r, hr, hrr⟩ := neg_one_square hp h1
  obtain ⟨s, s1, s2⟩ := sqrt_exists p
  have s3 : s * s < p := by
    rcases Nat.lt_or_ge (s * s) p with h | h
    · exact h
    · exfalso
      have e : s * s = p := by omega
      rcases hp.2 s ⟨s, e.symm⟩ with h | h
      · rw [h] at e; omega
      · rw [h] at e
        have : p * 1 < p * p := Nat.mul_lt_mul_of_pos_left hp1 hp.pos
        omega
  have hs : 0 < s + 1 := by omega
  obtain ⟨i, j, hi, hj, hne, he⟩ := pigeon (m := (s + 1) * (s + 1)) (n := p) (fun k => (k / (s + 1) + (p - r) * (k % (s + 1))) % p) (fun k _ => Nat.mod_lt _ hp.pos) s2
  have bu : ∀ k, k < (s + 1) * (s + 1) → k / (s + 1) ≤ s := fun k hk => by
    have := Nat.div_lt_of_lt_mul hk
    omega
  have bv : ∀ k, k % (s + 1) ≤ s := fun k => by have := Nat.mod_lt k hs; omega
  have hd : (p : Int) ∣ ((i / (s + 1) + (p - r) * (i % (s + 1)) : Nat) : Int) - ((j / (s + 1) + (p - r) * (j % (s + 1)) : Nat) : Int) := by
    apply Int.dvd_of_emod_eq_zero
    apply Int.emod_eq_emod_iff_emod_sub_eq_zero.1
    exact_mod_cast he
  have u1 := bu i hi
  have u2 := bu j hj
  have v1 := bv i
  have v2 := bv j
  have hdist : ¬ (i / (s + 1) = j / (s + 1) ∧ i % (s + 1) = j % (s + 1)) := fun ⟨a, b⟩ => hne (by
    rw [← Nat.div_add_mod i (s + 1), ← Nat.div_add_mod j (s + 1), a, b])
  generalize i / (s + 1) = a at *
  generalize i % (s + 1) = b at *
  generalize j / (s + 1) = c at *
  generalize j % (s + 1) = d at *
  have hpr : ((p - r : Nat) : Int) = (p : Int) - (r : Int) := by omega
  push_cast at hd
  rw [hpr] at hd
  have e1 : (a : Int) + ((p : Int) - r) * b - ((c : Int) + ((p : Int) - r) * d) = (((a : Int) - c) - r * ((b : Int) - d)) + p * ((b : Int) - d) := by
    rw [Int.sub_mul, Int.sub_mul, Int.mul_sub, Int.mul_sub]; omega
  rw [e1] at hd
  have hd2 : (p : Int) ∣ ((a : Int) - c) - r * ((b : Int) - d) := (Int.dvd_add_left (Int.dvd_mul_right _ _)).1 hd
  have hr1 : (p : Int) ∣ (r : Int) * r + 1 := by
    have h : (r * r + 1) % p = 0 := by
      rw [Nat.add_mod, hrr, Nat.mod_eq_of_lt hp1, show p - 1 + 1 = p by omega, Nat.mod_self]
    have := Nat.dvd_of_mod_eq_zero h
    exact_mod_cast this
  have hU : -(s : Int) ≤ (a : Int) - c ∧ (a : Int) - c ≤ s := by omega
  have hV : -(s : Int) ≤ (b : Int) - d ∧ (b : Int) - d ≤ s := by omega
  have hUV : ¬ ((a : Int) - c = 0 ∧ (b : Int) - d = 0) := fun ⟨x, y⟩ => hdist ⟨by omega, by omega⟩
  generalize (a : Int) - c = U at *
  generalize (b : Int) - d = V at *
  have hsum : (p : Int) ∣ U * U + V * V := by
    have e : U * U + V * V = (U - r * V) * (U + r * V) + (r * r + 1) * (V * V) := by
      simp only [Int.sub_mul, Int.mul_add, Int.add_mul, Int.one_mul]
      have h1 : U * (r * V) = r * V * U := Int.mul_comm _ _
      have h2 : r * V * (r * V) = (r : Int) * r * (V * V) := by ac_rfl
      omega
    rw [e]
    exact Int.dvd_add (Int.dvd_trans hd2 (Int.dvd_mul_right _ _)) (Int.dvd_trans hr1 (Int.dvd_mul_right _ _))
  have q1 := sq_le_sq hU.1 hU.2
  have q2 := sq_le_sq hV.1 hV.2
  have s3' : (s : Int) * s < p := by exact_mod_cast s3
  have hpos : 0 < U * U + V * V := by
    by_cases h : U = 0
    · have hv : V ≠ 0 := fun hv => hUV ⟨h, hv⟩
      have := sq_pos hv
      rw [h]; omega
    · have := sq_pos h
      by_cases hv : V = 0
      · rw [hv]; omega
      · have := sq_pos hv; omega
  obtain ⟨k, hk⟩ := hsum
  have hk1 : k = 1 := by
    rcases Int.lt_trichotomy k 1 with h | h | h
    · exfalso
      have : (p : Int) * k ≤ p * 0 := Int.mul_le_mul_of_nonneg_left (by omega) (by omega)
      omega
    · exact h
    · exfalso
      have : (p : Int) * 2 ≤ p * k := Int.mul_le_mul_of_nonneg_left (by omega) (by omega)
      omega
  refine ⟨U.natAbs, V.natAbs, ?_⟩
  rw [hk1, Int.mul_one] at hk
  have a1 := Int.natAbs_mul_self (a := U)
  have a2 := Int.natAbs_mul_self (a := V)
  have : ((U.natAbs * U.natAbs + V.natAbs * V.natAbs : Nat) : Int) = (p : Int) := by omega
  exact_mod_cast this

theorem sq_mod_four (x : Nat) : x * x % 4 = 0 ∨ x * x % 4 = 1 := by
  have h : x % 4 = 0 ∨ x % 4 = 1 ∨ x % 4 = 2 ∨ x % 4 = 3 := by omega
  rcases h with h | h | h | h <;> rw [Nat.mul_mod, h] <;> simp
theorem two_squares_iff {p : Nat} (hp : Prime p) : (∃ x y : Nat, x * x + y * y = p) ↔ p % 4 ≠ 3 := by
  have hp1 := hp.1
  constructor
  · rintro ⟨x, y, h⟩
    have h1 := sq_mod_four x
    have h2 := sq_mod_four y
    omega
  · intro h
    by_cases h2 : p = 2
    · exact ⟨1, 1, by omega⟩
    · have ho := prime_odd hp (by omega)
      exact two_squares hp (by omega)

end Wm

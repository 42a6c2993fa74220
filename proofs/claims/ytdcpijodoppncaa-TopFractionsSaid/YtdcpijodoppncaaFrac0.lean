/-
  Plain: continued fractions of natural numbers, their values, and the values of their beginnings. No program in sight.
-/
import Derived.Test.YtdcpijodoppncaaBase
set_option linter.unusedVariables false
set_option linter.unusedSimpArgs false
namespace Wm

/-- How often the one is in the other. -/
def cf (p q : Nat) : List Nat := if h : q = 0 then [] else p / q :: cf q (p % q)
termination_by q
decreasing_by exact Nat.mod_lt _ (by omega)
theorem cf_zero (p : Nat) : cf p 0 = [] := by rw [cf]; simp
theorem cf_pos {p q : Nat} (h : 0 < q) : cf p q = p / q :: cf q (p % q) := by rw [cf, dif_neg (by omega)]

/-- The numbers of the value, from the end on. -/
def val : List Nat → Nat × Nat
  | [] => (1, 0)
  | n :: l => (n * (val l).1 + (val l).2, (val l).1)

theorem val_cf : ∀ q p : Nat, 0 < q → val (cf p q) = (p / Nat.gcd p q, q / Nat.gcd p q) := by
  intro q
  induction q using Nat.strongRecOn with
  | ind q ih =>
    intro p hq
    rw [cf_pos hq]
    simp only [val]
    have hg : Nat.gcd p q = Nat.gcd q (p % q) := by rw [Nat.gcd_comm p q, Nat.gcd_rec, Nat.gcd_comm]
    rcases Nat.eq_zero_or_pos (p % q) with h0 | h0
    · rw [h0, cf_zero]
      simp only [val, Nat.mul_one, Nat.add_zero]
      rw [hg, h0, Nat.gcd_zero_right, Nat.div_self hq]
    · rw [ih _ (Nat.mod_lt _ hq) q h0, ← hg]
      have d1 : Nat.gcd p q ∣ q := Nat.gcd_dvd_right p q
      have d2 : Nat.gcd p q ∣ p % q := by rw [hg]; exact Nat.gcd_dvd_right q (p % q)
      have g0 : 0 < Nat.gcd p q := Nat.gcd_pos_of_pos_right _ hq
      obtain ⟨a, ha⟩ := d1
      obtain ⟨b, hb⟩ := d2
      have e := Nat.div_add_mod p q
      generalize Nat.gcd p q = g at *
      simp only [Prod.mk.injEq, and_true]
      have e1 : q / g = a := by rw [ha, Nat.mul_div_cancel_left _ g0]
      have e2 : p % q / g = b := by rw [hb, Nat.mul_div_cancel_left _ g0]
      have e3 : p = g * (p / q * a + b) := by
        rw [Nat.mul_add, ← hb]
        have : g * (p / q * a) = q * (p / q) := by
          calc g * (p / q * a) = (g * a) * (p / q) := by ac_rfl
            _ = q * (p / q) := by rw [← ha]
        omega
      rw [e1, e2]
      have e4 : p / g = p / q * a + b := by
        generalize p / q * a + b = z at *
        rw [e3, Nat.mul_div_cancel_left _ g0]
      exact e4.symm

/-- All but the first are at least 1. -/
def Pos (l : List Nat) : Prop := ∀ x ∈ l, 1 ≤ x
theorem cf_tail_pos : ∀ q p : Nat, 0 < q → p % q = p % q ∧ Pos (cf q (p % q)) := by
  intro q
  induction q using Nat.strongRecOn with
  | ind q ih =>
    intro p hq
    refine ⟨rfl, ?_⟩
    rcases Nat.eq_zero_or_pos (p % q) with h0 | h0
    · rw [h0, cf_zero]; intro x hx; simp at hx
    · rw [cf_pos h0]
      intro x hx
      rw [List.mem_cons] at hx
      rcases hx with rfl | hx
      · exact Nat.div_pos (Nat.le_of_lt (Nat.mod_lt _ hq)) h0
      · exact (ih _ (Nat.mod_lt _ hq) q h0).2 x hx
theorem cf_le : ∀ q p : Nat, 0 < q → ∀ x ∈ cf p q, x ≤ max p q := by
  intro q
  induction q using Nat.strongRecOn with
  | ind q ih =>
    intro p hq x hx
    rw [cf_pos hq, List.mem_cons] at hx
    rcases hx with rfl | hx
    · have := Nat.div_le_self p q; omega
    · rcases Nat.eq_zero_or_pos (p % q) with h0 | h0
      · rw [h0, cf_zero] at hx; simp at hx
      · have := ih _ (Nat.mod_lt _ hq) q h0 x hx
        have := Nat.mod_lt p hq
        omega
/-- The last one is above 1, if there are two or more. -/
theorem cf_last : ∀ q p : Nat, 0 < q → p % q ≠ 0 → ∀ d, 2 ≤ (cf p q).getLastD d := by
  intro q
  induction q using Nat.strongRecOn with
  | ind q ih =>
    intro p hq h0 d
    have h0' : 0 < p % q := Nat.pos_of_ne_zero h0
    have hlt := Nat.mod_lt p hq
    rw [cf_pos hq, List.getLastD_cons]
    by_cases h1 : q % (p % q) = 0
    · rw [cf_pos h0', h1, cf_zero]
      simp only [List.getLastD_cons, List.getLastD_nil]
      have e := Nat.div_add_mod q (p % q)
      rw [h1, Nat.add_zero] at e
      rcases Nat.lt_or_ge (q / (p % q)) 2 with h | h
      · generalize q / (p % q) = z at *
        have : z = 0 ∨ z = 1 := by omega
        rcases this with h | h <;> rw [h] at e <;> omega
      · exact h
    · exact ih _ hlt q h0' h1 _

/-! ### Beginnings -/
/-- The product of the tables (n 1; 1 0): (a, b; c, d). -/
def mat : List Nat → (Nat × Nat) × (Nat × Nat)
  | [] => ((1, 0), (0, 1))
  | n :: l => ((n * (mat l).1.1 + (mat l).2.1, n * (mat l).1.2 + (mat l).2.2), ((mat l).1.1, (mat l).1.2))
theorem val_mat : ∀ l, val l = ((mat l).1.1, (mat l).2.1)
  | [] => rfl
  | n :: l => by simp only [val, mat]; rw [val_mat l]
theorem mat_append : ∀ l m, mat (l ++ m) = (((mat l).1.1 * (mat m).1.1 + (mat l).1.2 * (mat m).2.1, (mat l).1.1 * (mat m).1.2 + (mat l).1.2 * (mat m).2.2), ((mat l).2.1 * (mat m).1.1 + (mat l).2.2 * (mat m).2.1, (mat l).2.1 * (mat m).1.2 + (mat l).2.2 * (mat m).2.2))
  | [], m => by simp [mat]
  | n :: l, m => by
    rw [List.cons_append, mat, mat_append l m]
    simp only [mat, Prod.mk.injEq]
    refine ⟨⟨?_, ?_⟩, trivial⟩ <;>
    · simp only [Nat.mul_add, Nat.add_mul]
      ac_rfl
theorem mat_snoc (l : List Nat) (n : Nat) : mat (l ++ [n]) = (((mat l).1.1 * n + (mat l).1.2, (mat l).1.1), ((mat l).2.1 * n + (mat l).2.2, (mat l).2.1)) := by
  rw [mat_append]; simp [mat]
/-- The determinant. -/
theorem mat_det : ∀ l, ((mat l).1.1 : Int) * (mat l).2.2 - (mat l).1.2 * (mat l).2.1 = if l.length % 2 = 0 then 1 else -1
  | [] => by simp [mat]
  | n :: l => by
    have ih := mat_det l
    simp only [mat, List.length_cons]
    push_cast
    have e : ((n : Int) * (mat l).1.1 + (mat l).2.1) * (mat l).1.2 - (n * (mat l).1.2 + (mat l).2.2) * (mat l).1.1 = -(((mat l).1.1 : Int) * (mat l).2.2 - (mat l).1.2 * (mat l).2.1) := by
      simp only [Int.add_mul]
      have a1 : (n : Int) * (mat l).1.1 * (mat l).1.2 = n * (mat l).1.2 * (mat l).1.1 := by ac_rfl
      have a2 : ((mat l).2.1 : Int) * (mat l).1.2 = (mat l).1.2 * (mat l).2.1 := by ac_rfl
      have a3 : ((mat l).2.2 : Int) * (mat l).1.1 = (mat l).1.1 * (mat l).2.2 := by ac_rfl
      omega
    rw [e, ih]
    by_cases h : l.length % 2 = 0
    · rw [if_pos h, if_neg (by omega)]
    · rw [if_neg h, if_pos (by omega)]; rfl
/-- Two beginnings that stand side by side. -/
theorem turn_det (l : List Nat) (n : Nat) : ((val l).1 : Int) * (val (l ++ [n])).2 - (val (l ++ [n])).1 * (val l).2 = if l.length % 2 = 0 then 1 else -1 := by
  have h := mat_det (l ++ [n])
  rw [val_mat, val_mat, mat_snoc] at *
  simp only [List.length_append, List.length_cons, List.length_nil] at h
  push_cast at h ⊢
  have a1 : ((mat l).1.1 : Int) * ((mat l).2.1 * n + (mat l).2.2) = ((mat l).2.1 * n + (mat l).2.2) * (mat l).1.1 := by ac_rfl
  have a2 : (((mat l).1.1 : Int) * n + (mat l).1.2) * (mat l).2.1 = (mat l).2.1 * ((mat l).1.1 * n + (mat l).1.2) := by ac_rfl
  by_cases hp : l.length % 2 = 0
  · rw [if_pos hp]
    rw [if_neg (by omega)] at h
    have a3 : (((mat l).1.1 : Int) * n + (mat l).1.2) * (mat l).2.1 - (mat l).1.1 * ((mat l).2.1 * n + (mat l).2.2) = -1 := h
    omega
  · rw [if_neg hp]
    rw [if_pos (by omega)] at h
    have a3 : (((mat l).1.1 : Int) * n + (mat l).1.2) * (mat l).2.1 - (mat l).1.1 * ((mat l).2.1 * n + (mat l).2.2) = 1 := h
    omega
/-- A beginning and the whole. -/
theorem turn_side (l m : List Nat) : ((val l).1 : Int) * (val (l ++ m)).2 - (val (l ++ m)).1 * (val l).2 = (if l.length % 2 = 0 then 1 else -1) * ((val m).2 : Int) := by
  have h := mat_det l
  rw [val_mat, val_mat, val_mat, mat_append]
  push_cast
  rw [← h]
  simp only [Int.mul_add, Int.add_mul, Int.sub_mul]
  have a1 : ((mat l).1.1 : Int) * ((mat l).2.1 * (mat m).1.1) = (mat l).1.1 * (mat m).1.1 * (mat l).2.1 := by ac_rfl
  have a2 : ((mat l).1.1 : Int) * ((mat l).2.2 * (mat m).2.1) = (mat l).1.1 * (mat l).2.2 * (mat m).2.1 := by ac_rfl
  have a3 : ((mat l).1.2 : Int) * (mat m).2.1 * (mat l).2.1 = (mat l).1.2 * (mat l).2.1 * (mat m).2.1 := by ac_rfl
  omega
/-- More behind makes both numbers no less. -/
theorem val_mono : ∀ (l m : List Nat), Pos m → (val l).1 ≤ (val (l ++ m)).1 ∧ (val l).2 ≤ (val (l ++ m)).2
  | [], m, hm => by
    rw [List.nil_append]
    refine ⟨?_, Nat.zero_le _⟩
    cases m with
    | nil => exact Nat.le_refl _
    | cons x m =>
      have hx := hm x (by simp)
      have ih := (val_mono [] m fun y hy => hm y (by simp [hy])).1
      rw [List.nil_append] at ih
      simp only [val] at ih ⊢
      have := Nat.mul_le_mul hx ih
      omega
  | n :: l, m, hm => by
    have ih := val_mono l m hm
    simp only [List.cons_append, val]
    refine ⟨?_, ih.1⟩
    have := Nat.mul_le_mul_left n ih.1
    omega

end Wm

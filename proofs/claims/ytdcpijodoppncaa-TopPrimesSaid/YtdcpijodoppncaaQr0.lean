/-
  Plain: half of the numbers from 1 to p - 1 are remainders of squares by a prime p that isn't 2.
-/
import Derived.Test.YtdcpijodoppncaaLegendre0
set_option linter.unusedVariables false
set_option linter.unusedSimpArgs false
namespace Wm

theorem len_le_sub : ∀ {l m : List Nat}, l.Nodup → (∀ x ∈ l, x ∈ m) → l.length ≤ m.length
  | [], _, _, _ => by simp
  | x :: l, m, h, hs => by
    have hx := hs x (by simp)
    have h1 := List.nodup_cons.1 h
    have := len_le_sub (m := m.erase x) h1.2 (fun y hy => by
      have hne : y ≠ x := fun e => h1.1 (by rw [← e]; exact hy)
      exact (List.mem_erase_of_ne hne).2 (hs y (by simp [hy])))
    rw [List.length_erase_of_mem hx] at this
    have hp : 0 < m.length := List.length_pos_of_mem hx
    rw [List.length_cons]; omega
theorem map_nodup' {f : Nat → Nat} : ∀ {l : List Nat}, l.Nodup → (∀ x ∈ l, ∀ y ∈ l, f x = f y → x = y) → (l.map f).Nodup
  | [], _, _ => by simp
  | x :: l, h, hi => by
    have h1 := List.nodup_cons.1 h
    rw [List.map_cons, List.nodup_cons]
    refine ⟨fun hm => ?_, map_nodup' h1.2 fun a ha b hb => hi a (by simp [ha]) b (by simp [hb])⟩
    obtain ⟨y, hy, e⟩ := List.mem_map.1 hm
    have := hi y (by simp [hy]) x (by simp) e
    exact h1.1 (this ▸ hy)

/-- Is b the remainder of a square? -/
def hasR (p b : Nat) : Bool := (List.range p).any (fun x => x * x % p == b)
theorem hasR_iff {p b : Nat} : hasR p b = true ↔ ∃ x, x < p ∧ x * x % p = b := by simp [hasR]
def qr (p k : Nat) : Nat := ((List.range k).filter (fun b => decide (0 < b) && hasR p b)).length
theorem qr_zero (p : Nat) : qr p 0 = 0 := rfl
theorem qr_one (p : Nat) : qr p 1 = 0 := rfl
theorem qr_yes {p k : Nat} (h0 : 0 < k) (h : hasR p k = true) : qr p (k + 1) = qr p k + 1 := by
  unfold qr
  rw [List.range_succ, List.filter_append, List.length_append]
  simp [h0, h]
theorem qr_no {p k : Nat} (h : hasR p k = false) : qr p (k + 1) = qr p k := by
  unfold qr
  rw [List.range_succ, List.filter_append, List.length_append]
  simp [h]
theorem qr_le (p k : Nat) : qr p k ≤ k := by
  unfold qr
  have := List.length_filter_le (fun b => decide (0 < b) && hasR p b) (List.range k)
  simpa using this
theorem sq_flip {p x : Nat} (h : x ≤ p) : (p - x) * (p - x) % p = x * x % p := by
  have e : (p - x) * (p - x) + x * p = p * (p - x) + x * x := by
    obtain ⟨y, rfl⟩ : ∃ y, p = x + y := ⟨p - x, by omega⟩
    rw [show x + y - x = y by omega]
    simp only [Nat.mul_add, Nat.add_mul]
    have := Nat.mul_comm y x
    omega
  have h1 : ((p - x) * (p - x) + x * p) % p = (p - x) * (p - x) % p := Nat.add_mul_mod_self_right ..
  have h2 : (p * (p - x) + x * x) % p = x * x % p := Nat.mul_add_mod_self_left ..
  rw [← h1, e, h2]
theorem qr_half {p : Nat} (hp : Prime p) (h3 : 3 ≤ p) : 2 * qr p p = p - 1 := by
  have ho := prime_odd hp h3
  obtain ⟨h, hh⟩ : ∃ h, p = 2 * h + 1 := ⟨p / 2, by omega⟩
  have inj : ∀ x ∈ List.range h, ∀ y ∈ List.range h, (x + 1) * (x + 1) % p = (y + 1) * (y + 1) % p → x = y := by
    have key : ∀ x y, x < y → y < h → (x + 1) * (x + 1) % p = (y + 1) * (y + 1) % p → False := fun x y hxy hy e => by
      obtain ⟨d, rfl⟩ : ∃ d, y = x + d := ⟨y - x, by omega⟩
      have e2 : (x + d + 1) * (x + d + 1) = (x + 1) * (x + 1) + d * (2 * x + d + 2) := by
        rw [show 2 * x + d + 2 = (x + 1) + (x + d + 1) by omega]
        obtain ⟨u, hu⟩ : ∃ u, u = x + 1 := ⟨_, rfl⟩
        rw [show x + d + 1 = u + d by omega, ← hu]
        simp only [Nat.mul_add, Nat.add_mul]
        have := Nat.mul_comm u d
        omega
      have hd : p ∣ d * (2 * x + d + 2) := by
        have h1 := Nat.dvd_of_mod_eq_zero (Nat.sub_mod_eq_zero_of_mod_eq e.symm)
        rw [e2, show (x + 1) * (x + 1) + d * (2 * x + d + 2) - (x + 1) * (x + 1) = d * (2 * x + d + 2) by omega] at h1
        exact h1
      rcases hp.dvd_mul hd with h1 | h1
      · have := Nat.le_of_dvd (by omega) h1; omega
      · have := Nat.le_of_dvd (by omega) h1; omega
    intro x hx y hy e
    rcases Nat.lt_trichotomy x y with c | c | c
    · exact (key x y c (List.mem_range.1 hy) e).elim
    · exact c
    · exact (key y x c (List.mem_range.1 hx) e.symm).elim
  have n1 := map_nodup' (f := fun x => (x + 1) * (x + 1) % p) (List.nodup_range (n := h)) inj
  have n2 : ((List.range p).filter (fun b => decide (0 < b) && hasR p b)).Nodup := List.Pairwise.filter _ List.nodup_range
  have l1 := len_le_sub n1 (m := (List.range p).filter (fun b => decide (0 < b) && hasR p b)) (fun b hb => by
    obtain ⟨x, hx, rfl⟩ := List.mem_map.1 hb
    have hx := List.mem_range.1 hx
    have hne : (x + 1) * (x + 1) % p ≠ 0 := fun e => by
      rcases hp.dvd_mul (Nat.dvd_of_mod_eq_zero e) with h1 | h1 <;> (have := Nat.le_of_dvd (by omega) h1; omega)
    rw [List.mem_filter]
    refine ⟨List.mem_range.2 (Nat.mod_lt _ (by omega)), ?_⟩
    rw [Bool.and_eq_true, decide_eq_true_iff]
    exact ⟨Nat.pos_of_ne_zero hne, hasR_iff.2 ⟨x + 1, by omega, rfl⟩⟩)
  have l2 := len_le_sub n2 (m := (List.range h).map (fun x => (x + 1) * (x + 1) % p)) (fun b hb => by
    rw [List.mem_filter, Bool.and_eq_true, decide_eq_true_iff, hasR_iff] at hb
    obtain ⟨-, h0, x, hx, rfl⟩ := hb
    have hx0 : x ≠ 0 := fun e => by rw [e] at h0; simp at h0
    rw [List.mem_map]
    by_cases hs : x ≤ h
    · exact ⟨x - 1, List.mem_range.2 (by omega), by rw [show x - 1 + 1 = x by omega]⟩
    · exact ⟨p - x - 1, List.mem_range.2 (by omega), by rw [show p - x - 1 + 1 = p - x by omega, sq_flip (by omega)]⟩)
  simp only [List.length_map, List.length_range] at l1 l2
  unfold qr
  omega
end Wm

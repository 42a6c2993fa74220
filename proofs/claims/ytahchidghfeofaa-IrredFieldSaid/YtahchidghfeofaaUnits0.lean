/-
  Euler's and Fermat's theorems on powers, by the product of all numbers that have nothing in common with m. No program in sight.
-/
import Derived.Test.YtahchidghfeofaaPrime0
import Derived.Test.YtahchidghfeofaaRest0
set_option linter.unusedVariables false
set_option linter.unusedSimpArgs false
namespace Wm

theorem perm_of_subset {l₁ l₂ : List Nat} (h1 : l₁.Nodup) (h2 : l₂.Nodup) (hs : ∀ x ∈ l₁, x ∈ l₂) (hl : l₂.length ≤ l₁.length) : l₁.Perm l₂ := by
  have hs2 : ∀ x ∈ l₂, x ∈ l₁ := fun x hx => by
    apply Classical.byContradiction
    intro hn
    have := List.Nodup.length_le_of_subset (l₁ := x :: l₁) (l₂ := l₂) (List.nodup_cons.2 ⟨hn, h1⟩) (fun y hy => by
      rcases List.mem_cons.1 hy with rfl | hy
      · exact hx
      · exact hs y hy)
    simp at this
    omega
  rw [List.perm_iff_count]
  intro a
  by_cases ha : a ∈ l₁
  · rw [h1.count, h2.count, if_pos ha, if_pos (hs a ha)]
  · rw [List.count_eq_zero_of_not_mem ha, List.count_eq_zero_of_not_mem (fun h => ha (hs2 a h))]

theorem map_perm {l : List Nat} (f : Nat → Nat) (h1 : l.Nodup) (hf : ∀ x ∈ l, f x ∈ l) (hi : ∀ x ∈ l, ∀ y ∈ l, f x = f y → x = y) : (l.map f).Perm l := by
  refine perm_of_subset ?_ h1 (fun x hx => ?_) (by simp)
  · rw [List.nodup_iff_pairwise_ne] at *
    rw [List.pairwise_map]
    refine h1.imp_of_mem fun {a b} ha hb hne he => hne (hi a ha b hb he)
  · obtain ⟨y, hy, rfl⟩ := List.mem_map.1 hx
    exact hf y hy

/-- The numbers from 0 to m - 1 that have nothing in common with m. -/
def units (m : Nat) : List Nat := (List.range m).filter fun k => decide (Nat.gcd k m = 1)
theorem mem_units {m k : Nat} : k ∈ units m ↔ k < m ∧ Nat.gcd k m = 1 := by simp [units]
theorem units_nodup (m : Nat) : (units m).Nodup := List.Pairwise.filter _ List.nodup_range

theorem prod_coprime {m : Nat} : ∀ {l : List Nat}, (∀ x ∈ l, Nat.gcd x m = 1) → Nat.gcd l.prod m = 1
  | [], _ => by simp
  | x :: l, h => by
    rw [List.prod_cons]
    exact Nat.Coprime.mul_left (h x List.mem_cons_self) (prod_coprime fun y hy => h y (List.mem_cons_of_mem _ hy))

theorem prod_map_mul (a m : Nat) : ∀ l : List Nat, (l.map fun k => a * k % m).prod % m = a ^ l.length * l.prod % m
  | [] => by simp
  | x :: l => by
    rw [List.map_cons, List.prod_cons, List.prod_cons, List.length_cons, Nat.mul_mod, prod_map_mul a m l, Nat.mod_mod, ← Nat.mul_mod]
    congr 1
    rw [Nat.pow_succ]
    simp only [Nat.mul_assoc, Nat.mul_comm, Nat.mul_left_comm]

theorem mod_cancel {m a b c : Nat} (hc : Nat.gcd c m = 1) (h : a * c % m = b * c % m) : a % m = b % m := by
  have h1 : ((a : Int) * c) % m = ((b : Int) * c) % m := by exact_mod_cast h
  rw [emod_congr, ← Int.sub_mul] at h1
  have h2 : (m : Int) ∣ (a : Int) - b := by
    have := Int.natAbs_dvd_natAbs.2 h1
    rw [Int.natAbs_mul, Int.natAbs_natCast, Int.natAbs_natCast] at this
    have := Nat.Coprime.dvd_of_dvd_mul_right (show Nat.Coprime m c from (Nat.gcd_comm m c).trans hc) this
    rw [← Int.natAbs_dvd_natAbs, Int.natAbs_natCast]
    exact this
  have h3 := emod_congr.2 h2
  exact_mod_cast h3

/-- Euler. -/
theorem euler {m a : Nat} (hc : Nat.gcd a m = 1) : a ^ (units m).length % m = 1 % m := by
  rcases Nat.eq_zero_or_pos m with rfl | hm
  · simp [units]
  have hp : ((units m).map fun k => a * k % m).Perm (units m) := by
    refine map_perm _ (units_nodup m) (fun x hx => ?_) (fun x hx y hy he => ?_)
    · rw [mem_units] at hx ⊢
      refine ⟨Nat.mod_lt _ hm, ?_⟩
      rw [← Nat.gcd_rec, Nat.gcd_comm]
      exact Nat.Coprime.mul_left hc hx.2
    · rw [mem_units] at hx hy
      have : x % m = y % m := mod_cancel hc (by rw [Nat.mul_comm x, Nat.mul_comm y]; exact he)
      rwa [Nat.mod_eq_of_lt hx.1, Nat.mod_eq_of_lt hy.1] at this
  have h1 := congrArg (· % m) (List.Perm.prod_nat hp)
  simp only [prod_map_mul] at h1
  refine mod_cancel (c := (units m).prod) (prod_coprime fun x hx => (mem_units.1 hx).2) ?_
  rw [h1, Nat.one_mul]

theorem units_prime {p : Nat} (hp : Prime p) : (units p).length = p - 1 := by
  have h1 : ∀ k ∈ units p, k ∈ List.range' 1 (p - 1) := fun k hk => by
    rw [mem_units] at hk
    rw [List.mem_range'_1]
    have : k ≠ 0 := fun h => by subst h; have := hk.2; simp at this; have := hp.1; omega
    omega
  have h2 : ∀ k ∈ List.range' 1 (p - 1), k ∈ units p := fun k hk => by
    rw [List.mem_range'_1] at hk
    rw [mem_units]
    refine ⟨by omega, ?_⟩
    rw [Nat.gcd_comm]
    exact hp.coprime fun hd => by have := Nat.le_of_dvd (by omega) hd; omega
  have l1 := List.Nodup.length_le_of_subset (units_nodup p) h1
  have l2 := List.Nodup.length_le_of_subset (List.nodup_range' (s := 1) (n := p - 1)) h2
  rw [List.length_range'] at l1 l2
  omega

/-- Fermat. -/
theorem fermat_nat {p : Nat} (hp : Prime p) (a : Nat) : a ^ p % p = a % p := by
  by_cases hd : p ∣ a
  · rw [Nat.mod_eq_zero_of_dvd hd, Nat.mod_eq_zero_of_dvd]
    exact Nat.dvd_trans hd (by have := hp.1; obtain ⟨k, rfl⟩ := Nat.exists_eq_add_of_le (show 1 ≤ p by omega); rw [Nat.pow_add, Nat.pow_one]; exact Nat.dvd_mul_right _ _)
  · have h := euler (m := p) (a := a) ((Nat.gcd_comm a p).trans (hp.coprime hd))
    rw [units_prime hp] at h
    have e : p = (p - 1) + 1 := by have := hp.1; omega
    conv => lhs; arg 1; rw [e, Nat.pow_succ]
    rw [Nat.mul_mod, h, ← Nat.mul_mod, Nat.one_mul]
theorem fermat {p : Nat} (hp : Prime p) (a : Int) : a ^ p % (p : Int) = a % (p : Int) := by
  have hpp := hp.pos
  have e : a % (p : Int) = (((a % (p : Int)).toNat : Nat) : Int) := by
    have := Int.emod_nonneg a (show (p : Int) ≠ 0 by omega); omega
  rw [← pow_emod, e]
  have := fermat_nat hp (a % (p : Int)).toNat
  have h2 : (((a % (p : Int)).toNat ^ p % p : Nat) : Int) = (((a % (p : Int)).toNat % p : Nat) : Int) := by rw [this]
  push_cast at h2
  rw [h2, Int.emod_eq_of_lt (by omega)]
  have := Int.emod_lt_of_pos a (show (0 : Int) < p by omega)
  omega

end Wm

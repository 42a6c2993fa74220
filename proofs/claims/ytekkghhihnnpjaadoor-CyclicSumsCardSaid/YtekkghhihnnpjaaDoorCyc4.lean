/-
  The contracts of wholekeep.bitsOf and byOf.
-/
import Derived.Test.YtekkghhihnnpjaaDoorCyc3
import Derived.Test.YtekkghhihnnpjaaDoorBase
set_option linter.unusedVariables false
set_option linter.unusedSimpArgs false
namespace Go.Proofs.YtekkghhihnnpjaaDoor
open Go.RowKit Go.BigFrame
def odd (xs : List Nat) : Nat → Bool := fun j => xs.getD j 0 % 2 == 1
theorem bsF_snoc (f : Nat → Bool) (n : Nat) : bsF f (n + 1) = bsF f n ++ bsF (fun _ => f n) 1 := by
  rw [bsF_append]
  refine bsF_congr fun j hj => ?_
  by_cases c : j < n
  · rw [if_pos c]
  · rw [if_neg c, show j = n by omega]
theorem e48 : Utf8.encode 48 = bsF (fun _ => false) 1 := by decide +kernel
theorem e49 : Utf8.encode 49 = bsF (fun _ => true) 1 := by decide +kernel
set_option maxRecDepth 100000 in
set_option maxHeartbeats 4000000 in
theorem bitsOf_ok (A : Option Addr) (n c : Nat) (xs : List Nat) (h8 : ∀ x ∈ xs, x < 256) (most k : Nat) (hk : k = min n most) (hm : most ≤ 1000) (hnc : n ≤ c) (hc : (c : Int) ≤ 9223372036854775807) (w : World) (R : Row w A n 1 (nats .u8 xs)) (hA : A = none → n = 0 ∧ c = 0) :
    Calls Tryd.prog 13 #[.slice A n c, .int .i64 most] w fun e w' => e = .returned (.string (bsF (odd xs) k)) ∧ Ext w w' := by
  have hmin : min (n : Int) (most : Int) = (k : Int) := by omega
  have hkn : k ≤ n := by omega
  have hkc : (k : Int) ≤ (c : Int) := by omega
  have hk1 : k ≤ 1000 := by omega
  have HR := hide R
  clear R hk
  go_enter Tryd.func13, Tryd.ntmps13
  go_wp2
  go_loopw [5, 15] (fun v q wr => ∃ i : Nat, i ≤ k ∧ q = .int .i64 i ∧ v = .string (bsF (odd xs) i) ∧ Hid (Ext w wr)) (fun _ q _ => k - (intOf q).toNat)
  case atStart => exact ⟨0, Nat.zero_le _, rfl, rfl, hide (Ext.refl _)⟩
  case round =>
    obtain ⟨i, hi, rfl, rfl, HE⟩ := hrel
    by_cases hlt : i < k
    · obtain ⟨b, o, rfl, hb, hc1⟩ := ((unhide HR).keep (unhide HE)).nat (k := i) (by omega)
      have hz48 : ¬ 9223372036854775807 < (bsF (odd xs) i).size + (Utf8.encode 48).size := by rw [e48, bsF_size, bsF_size]; omega
      have hz49 : ¬ 9223372036854775807 < (bsF (odd xs) i).size + (Utf8.encode 49).size := by rw [e49, bsF_size, bsF_size]; omega
      have HNX := hide (bsF_snoc (odd xs) i)
      have hodd : odd xs i = (xs.getD i 0 % 2 == 1) := rfl
      have hx8 : xs.getD i 0 < 256 := by
        rw [List.getD_eq_getElem?_getD]
        cases h : xs[i]? with
        | none => simp
        | some x => exact h8 x (List.mem_of_getElem? h)
      generalize xs.getD i 0 = x at *
      rcases Nat.mod_two_eq_zero_or_one x with hr | hr
      · have hr1 : (x : Int).tmod 2 = 0 := by rw [show (x : Int).tmod 2 = ((x % 2 : Nat) : Int) from rfl, hr]; rfl
        have hr2 : (x : Int) % 2 = 0 := by omega
        rw [hr] at hodd
        have hodd2 : odd xs i = false := hodd
        clear hodd
        go_wp2
        exact ⟨⟨i + 1, by omega, by go_num, by rw [unhide HNX, hodd2, e48], HE⟩, by simp [intOf]; omega⟩
      · have hr1 : (x : Int).tmod 2 = 1 := by rw [show (x : Int).tmod 2 = ((x % 2 : Nat) : Int) from rfl, hr]; rfl
        have hr2 : (x : Int) % 2 = 1 := by omega
        rw [hr] at hodd
        have hodd2 : odd xs i = true := hodd
        clear hodd
        go_wp2
        exact ⟨⟨i + 1, by omega, by go_num, by rw [unhide HNX, hodd2, e49], HE⟩, by simp [intOf]; omega⟩
    · obtain rfl : k = i := by omega
      go_wp2
      go_ret
      exact ⟨rfl, unhide HE⟩
/-- What is divided by. -/
def byG (xs : List Nat) (k : Nat) : Nat → Bool := fun j => decide (j = 0) || decide (j = k + 1) || (decide (j ≤ k) && odd xs (j - 1))
theorem byG_zero (xs : List Nat) (k : Nat) : byG xs k 0 = true := by simp [byG]
theorem byG_top (xs : List Nat) (k : Nat) : byG xs k (k + 1) = true := by simp [byG]
theorem byG_far (xs : List Nat) (k : Nat) : ∀ j, k + 1 < j → byG xs k j = false := fun j hj => by
  have h1 : decide (j = 0) = false := decide_eq_false (by omega)
  have h2 : decide (j = k + 1) = false := decide_eq_false (by omega)
  have h3 : decide (j ≤ k) = false := decide_eq_false (by omega)
  simp [byG, h1, h2, h3]
theorem byG_str (xs : List Nat) (k : Nat) : (⟨#[49]⟩ : ByteArray) ++ bsF (odd xs) k ++ ⟨#[49]⟩ = bsF (byG xs k) (k + 1 + 1) := by
  have e1 : (⟨#[49]⟩ : ByteArray) = bsF (fun _ => true) 1 := by decide +kernel
  rw [e1, bsF_append, bsF_append, show 1 + k + 1 = k + 1 + 1 by omega]
  refine bsF_congr fun j hj => ?_
  by_cases c1 : j < 1
  · obtain rfl : j = 0 := by omega
    simp [byG]
  · by_cases c2 : j < 1 + k
    · rw [if_pos c2, if_neg c1]
      have h1 : decide (j = 0) = false := decide_eq_false (by omega)
      have h2 : decide (j = k + 1) = false := decide_eq_false (by omega)
      have h3 : decide (j ≤ k) = true := decide_eq_true (by omega)
      simp [byG, h1, h2, h3]
    · rw [if_neg c2, show j = k + 1 by omega, byG_top]
set_option maxRecDepth 100000 in
set_option maxHeartbeats 4000000 in
theorem byOf_ok (A : Option Addr) (n c : Nat) (xs : List Nat) (h8 : ∀ x ∈ xs, x < 256) (k : Nat) (hk : k = min n 15) (hnc : n ≤ c) (hc : (c : Int) ≤ 9223372036854775807) (w : World) (R : Row w A n 1 (nats .u8 xs)) (hA : A = none → n = 0 ∧ c = 0) :
    Calls Tryd.prog 14 #[.slice A n c] w fun e w' => e = .returned (.string (bsF (byG xs k) (k + 1 + 1))) ∧ Ext w w' := by
  have C := hide (fun w R => bitsOf_ok A n c xs h8 15 k hk (by omega) hnc hc w R hA)
  have HS := hide (byG_str xs k)
  have hz1 : ¬ 9223372036854775807 < 1 + (bsF (odd xs) k).size := by rw [bsF_size]; omega
  have hz2 : ¬ 9223372036854775807 < 1 + (bsF (odd xs) k).size + 1 := by rw [bsF_size]; omega
  have HR := hide R
  clear R hk
  go_enter Tryd.func14, Tryd.ntmps14
  go_wp2_with fail
  refine (unhide C _ (unhide HR)).mono ?_
  rintro e w1 ⟨rfl, E1⟩
  go_wp2
  go_ret
  exact ⟨by rw [unhide HS]; rfl, E1⟩
end Go.Proofs.YtekkghhihnnpjaaDoor

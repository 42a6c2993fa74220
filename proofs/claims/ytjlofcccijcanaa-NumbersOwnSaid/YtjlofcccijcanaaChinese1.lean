/-
  The contracts of package chinese: modulus, Check, Join.
-/
import Derived.Test.YtjlofcccijcanaaMem
import Derived.Test.YtjlofcccijcanaaChinese0
import Derived.Test.YtjlofcccijcanaaArith1
import Derived.Test.YtjlofcccijcanaaRest1
set_option linter.unusedVariables false
set_option linter.unusedSimpArgs false
namespace Go.Proofs.Ytjlofcccijcanaa
open Go.RowKit Go.BigFrame

theorem modulus_yes (m : Int) (w : World) (h : 1 ≤ m ∧ m ≤ 1000) :
    Calls Try.prog 96 #[.int .i64 m] w fun e w' => e = .returned (.bool true) ∧ w' = w := by
  go_enter Try.func96, Try.ntmps96
  go_wp2
  go_ret
  exact ⟨rfl, rfl⟩
theorem modulus_no (m : Int) (w : World) (h : ¬ (1 ≤ m ∧ m ≤ 1000)) :
    Calls Try.prog 96 #[.int .i64 m] w fun e w' => e = .returned (.bool false) ∧ w' = w := by
  by_cases h1 : 1 ≤ m
  · have h2 : 1000 < m := by omega
    have h3 : decide (m ≤ 1000) = false := decide_eq_false (by omega)
    clear h
    go_enter Try.func96, Try.ntmps96
    go_wp2
    go_ret
    exact ⟨rfl, rfl⟩
  · clear h
    go_enter Try.func96, Try.ntmps96
    go_wp2
    go_ret
    exact ⟨rfl, rfl⟩

def RestOk (p : Int × Int) : Prop := (1 ≤ p.2 ∧ p.2 ≤ 1000) ∧ 0 ≤ p.1 ∧ p.1 < p.2

theorem cCheck_large (A : Option Addr) (n c : Nat) (w : World) (h : 6 < n) (hm : (n : Int) ≤ 9223372036854775807) :
    Calls Try.prog 65 #[.slice A n c] w fun e w' => e = .returned (.int .i64 2) ∧ Ext w w' := by
  go_enter Try.func65, Try.ntmps65
  go_wp2
  go_ret
  exact ⟨rfl, Ext.refl _⟩

set_option maxRecDepth 100000 in
set_option maxHeartbeats 1000000 in
theorem cCheck_ok (A : Option Addr) (n c : Nat) (l : List (Int × Int)) (w : World) (R : Row w A n 2 (prs l)) (h6 : n ≤ 6) (hall : ∀ p ∈ l, RestOk p) :
    Calls Try.prog 65 #[.slice A n c] w fun e w' => e = .returned (.int .i64 0) ∧ Ext w w' := by
  have HA := hide hall
  have hlen := hide R.prn
  have HR := hide R
  clear hall R
  go_enter Try.func65, Try.ntmps65
  go_wp2
  go_loopw [10] (fun i wr => ∃ k : Nat, k ≤ n ∧ i = .int .i64 k ∧ Ext w wr) (fun i _ => n - (intOf i).toNat)
  case atStart => exact ⟨0, by omega, rfl, Ext.refl _⟩
  case round =>
    obtain ⟨k, hk, rfl, hext⟩ := hrel
    by_cases hlt : k < n
    · obtain ⟨b, o, rfl, hb, c1, c2⟩ := ((unhide HR).keep hext).pair hlt
      obtain ⟨v1, v2, v3⟩ := unhide HA _ (getD_mem l (0, 0) (k := k) (by rw [unhide hlen]; exact hlt))
      generalize (l.getD k (0, 0)).1 = r at *
      generalize (l.getD k (0, 0)).2 = m at *
      have v1' := v1.1
      have v1'' := v1.2
      have d1 : decide (m ≤ r) = false := decide_eq_false (by omega)
      go_wp2_with (go_at_call 96; refine (modulus_yes _ _ ⟨v1', v1''⟩).mono ?_; rintro e w' ⟨rfl, rfl⟩)
      go_roundw
      case rel => exact ⟨k + 1, by omega, by go_num, (by repeat (first | exact hext | refine Ext.alloc ?_ _ | refine Ext.drew ?_ | refine Ext.drewN ?_ _ | (refine Ext.trans ?_ (plus_ext _ _)) | (refine Ext.setCell ?_ (by have := Ext.size hext; simp; omega) _)))⟩
      case measure => simp [intOf]; omega
    · go_wp2
      go_ret
      exact ⟨rfl, hext⟩

set_option maxRecDepth 100000 in
set_option maxHeartbeats 1000000 in
theorem cCheck_bad (A : Option Addr) (n c : Nat) (l : List (Int × Int)) (w : World) (R : Row w A n 2 (prs l)) (h6 : n ≤ 6) (hno : ¬ ∀ p ∈ l, RestOk p) :
    Calls Try.prog 65 #[.slice A n c] w fun e w' => e = .returned (.int .i64 1) ∧ Ext w w' := by
  have HA := hide hno
  have hlen := hide R.prn
  have HR := hide R
  clear hno R
  go_enter Try.func65, Try.ntmps65
  go_wp2
  go_loopw [10] (fun i wr => ∃ k : Nat, k ≤ n ∧ i = .int .i64 k ∧ Hid (∀ j, j < k → RestOk (l.getD j (0, 0))) ∧ Ext w wr) (fun i _ => n - (intOf i).toNat)
  case atStart => exact ⟨0, by omega, rfl, hide (fun j h => absurd h (by omega)), Ext.refl _⟩
  case round =>
    obtain ⟨k, hk, rfl, hz, hext⟩ := hrel
    by_cases hlt : k < n
    · obtain ⟨b, o, rfl, hb, c1, c2⟩ := ((unhide HR).keep hext).pair hlt
      by_cases hv : RestOk (l.getD k (0, 0))
      · have hz' := hide (fun j (hj : j < k + 1) => (show RestOk (l.getD j (0, 0)) from by
          by_cases h : j < k
          · exact unhide hz j h
          · obtain rfl : j = k := by omega
            exact hv))
        obtain ⟨v1, v2, v3⟩ := hv
        generalize (l.getD k (0, 0)).1 = r at *
        generalize (l.getD k (0, 0)).2 = m at *
        have v1' := v1.1
        have v1'' := v1.2
        have d1 : decide (m ≤ r) = false := decide_eq_false (by omega)
        go_wp2_with (go_at_call 96; refine (modulus_yes _ _ ⟨v1', v1''⟩).mono ?_; rintro e w' ⟨rfl, rfl⟩)
        go_roundw
        case rel => exact ⟨k + 1, by omega, by go_num, hz', (by repeat (first | exact hext | refine Ext.alloc ?_ _ | refine Ext.drew ?_ | refine Ext.drewN ?_ _ | (refine Ext.trans ?_ (plus_ext _ _)) | (refine Ext.setCell ?_ (by have := Ext.size hext; simp; omega) _)))⟩
        case measure => simp [intOf]; omega
      · have hv' : ¬ (1 ≤ (l.getD k (0, 0)).2 ∧ (l.getD k (0, 0)).2 ≤ 1000) ∨ (1 ≤ (l.getD k (0, 0)).2 ∧ (l.getD k (0, 0)).2 ≤ 1000 ∧ (l.getD k (0, 0)).1 < 0) ∨ (1 ≤ (l.getD k (0, 0)).2 ∧ (l.getD k (0, 0)).2 ≤ 1000 ∧ 0 ≤ (l.getD k (0, 0)).1 ∧ (l.getD k (0, 0)).2 ≤ (l.getD k (0, 0)).1) := by
          unfold RestOk at hv
          omega
        clear hv
        generalize (l.getD k (0, 0)).1 = r at *
        generalize (l.getD k (0, 0)).2 = m at *
        rcases hv' with h1 | ⟨h1, h2, h3⟩ | ⟨h1, h2, h3, h4⟩
        · have C := hide (fun w : World => modulus_no m w h1)
          clear h1
          go_wp2_with (go_at_call 96; refine (unhide C _).mono ?_; rintro e w' ⟨rfl, rfl⟩)
          go_ret
          exact ⟨rfl, (by repeat (first | exact hext | refine Ext.alloc ?_ _ | refine Ext.drew ?_ | refine Ext.drewN ?_ _ | (refine Ext.trans ?_ (plus_ext _ _)) | (refine Ext.setCell ?_ (by have := Ext.size hext; simp; omega) _)))⟩
        · have C := hide (fun w : World => modulus_yes m w ⟨h1, h2⟩)
          go_wp2_with (go_at_call 96; refine (unhide C _).mono ?_; rintro e w' ⟨rfl, rfl⟩)
          go_ret
          exact ⟨rfl, (by repeat (first | exact hext | refine Ext.alloc ?_ _ | refine Ext.drew ?_ | refine Ext.drewN ?_ _ | (refine Ext.trans ?_ (plus_ext _ _)) | (refine Ext.setCell ?_ (by have := Ext.size hext; simp; omega) _)))⟩
        · have C := hide (fun w : World => modulus_yes m w ⟨h1, h2⟩)
          have d1 : decide (m ≤ r) = true := decide_eq_true h4
          go_wp2_with (go_at_call 96; refine (unhide C _).mono ?_; rintro e w' ⟨rfl, rfl⟩)
          go_ret
          exact ⟨rfl, (by repeat (first | exact hext | refine Ext.alloc ?_ _ | refine Ext.drew ?_ | refine Ext.drewN ?_ _ | (refine Ext.trans ?_ (plus_ext _ _)) | (refine Ext.setCell ?_ (by have := Ext.size hext; simp; omega) _)))⟩
    · exfalso
      have hkn : k = n := by omega
      refine unhide HA fun p hp => ?_
      obtain ⟨j, hj, rfl⟩ := List.getElem_of_mem hp
      have := unhide hz j (by have := unhide hlen; omega)
      rw [List.getD_eq_getElem?_getD, List.getElem?_eq_getElem hj] at this
      exact this

end Go.Proofs.Ytjlofcccijcanaa

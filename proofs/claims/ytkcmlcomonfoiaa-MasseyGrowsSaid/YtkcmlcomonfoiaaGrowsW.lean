/-
  The walk of the law MasseyGrows.
-/
import Derived.Test.YtkcmlcomonfoiaaMassey3
set_option linter.unusedVariables false
set_option linter.unusedSimpArgs false
namespace Go.Proofs.Ytkcmlcomonfoiaa
open Go.RowKit Go.BigFrame

set_option maxRecDepth 100000 in
set_option maxHeartbeats 1000000 in
theorem grows_law (A : Option Addr) (n c : Nat) (l : List Nat) (q : Int) (w : World) (S : SliceIn w A n c 1 1 (nats .u8 l)) (h8 : ∀ x ∈ l, x < 256) :
    Calls Try.prog 5 #[.slice A n c, .int .i64 q] w fun e w' => e = .returned (.bool true) ∧ Ext w w' := by
  have CT := hide (fun (w' : World) (E : Ext w w') => tape_any A n c l w' ⟨S.1.keep E, S.2⟩ h8)
  clear S h8
  go_enter Try.func5, Try.ntmps5
  go_wp2_with fail
  refine (masseys_any w).mono ?_
  rintro e w1 ⟨rfl, E1⟩
  go_wp2_with fail
  refine (unhide CT w1 E1).mono ?_
  rintro e w2 ⟨⟨v, rfl, hown⟩, E2⟩
  have EE := E1.trans E2
  obtain ⟨A2, c2, rfl, R, hc1, hc2, -⟩ := row_of_own hown
  obtain ⟨m, hm⟩ : ∃ m, m = min n 60 := ⟨_, rfl⟩
  rw [← hm] at R hc1 ⊢
  have hm60 : m ≤ 60 := by omega
  clear hm hown E1 E2 CT
  obtain ⟨f, hf⟩ : ∃ f, f = tapeF l := ⟨_, rfl⟩
  rw [← hf] at R
  clear hf
  unfold maxLen at hc2
  by_cases hm0 : m = 0
  · subst hm0
    clear R
    go_wp2
    go_ret
    exact ⟨rfl, EE⟩
  · have hmI : ((m : Int) == 0) = false := by rw [beq_eq_false_iff_ne]; omega
    have hmJ : ¬ (m : Int) = 0 := by omega
    obtain ⟨r, hr0, hr1, -, CW⟩ := within_ex q (m : Int) (by omega) (by omega)
    obtain ⟨k, rfl⟩ := Int.eq_ofNat_of_zero_le hr0
    have hkm : k < m := by omega
    have HR := hide (show RowB w2 A2 m f from R)
    have hkc : k ≤ c2 := by omega
    have hkc1 : k + 1 ≤ c2 := by omega
    have hw1 : IntKind.i64.wrap ((k : Int) + 1) = ((k + 1 : Nat) : Int) := (IntWalk.i64_in _ (by omega)).trans (by omega)
    have hkcI : ((k + 1 : Nat) : Int) ≤ (c2 : Int) := by omega
    clear R
    go_wp2_with fail
    refine (unhide CW _).mono ?_
    rintro e w2 ⟨rfl, rfl⟩
    have C1 := hide (Rule_ok A2 k c2 f w2 ((unhide HR).take (by omega)) (by omega))
    have C2 := hide (fun (w' : World) (E : Ext w2 w') => Rule_ok A2 (k + 1) c2 f w' (((unhide HR).keep E).take (by omega)) (by omega))
    clear CW
    go_wp2_with fail
    refine (unhide C1).mono ?_
    rintro e w3 ⟨⟨C, B, L, g, v, hst, rfl, hmd⟩, E3⟩
    obtain ⟨A3, c3, rfl, R3, -⟩ := hmd.open_
    clear hmd R3
    go_wp2_with fail
    refine (unhide C2 w3 E3).mono ?_
    rintro e w4 ⟨⟨C', B', L', g', v', hst', rfl, hmd'⟩, E4⟩
    obtain ⟨A4, c4, rfl, R4, -⟩ := hmd'.open_
    have hgr := Wm.grows hst hst'.1 hst'.2.1
    have hL := hst.le
    have hL' := hst'.le
    have EF := (EE.trans E3).trans E4
    clear hmd' R4 hst hst' EE E3 E4 C1 C2 HR
    have hsub : IntKind.i64.wrap (((k + 1 : Nat) : Int) - (L : Int)) = ((k + 1 - L : Nat) : Int) := (IntWalk.i64_in _ (by omega)).trans (by omega)
    by_cases hLL : L' = L
    · subst hLL
      have h1 : ((L' : Int) == (L' : Int)) = true := by simp
      clear hgr
      go_wp2_with (go_at_call 17; refine (good_made' [0, 0] _ _ _ _ w4 rfl rfl (by decide) (by simp)).mono ?_; rintro e wg ⟨rfl, rfl⟩)
      all_goals
        go_ret
        exact ⟨rfl, EF.alloc _⟩
    · have h0 : ((L' : Int) == (L : Int)) = false := by rw [beq_eq_false_iff_ne]; omega
      have h00 : ¬ (L' : Int) = (L : Int) := by omega
      have h2 : ((L' : Int) == (k : Int) + 1 - (L : Int)) = true := by rw [beq_iff_eq]; omega
      have h3 : (L' : Int) = (k : Int) + 1 - (L : Int) := by omega
      have h4 : decide ((L : Int) < (L' : Int)) = true := decide_eq_true (by omega)
      have h4' : decide ((L : Int) < (k : Int) + 1 - (L : Int)) = true := decide_eq_true (by omega)
      have h6 : ((k : Int) + 1 - (L : Int) == (L : Int)) = false := by rw [beq_eq_false_iff_ne]; omega
      have h5 : decide (L < L') = true := decide_eq_true (by omega)
      clear hgr
      go_wp2_with (go_at_call 17; refine (good_made' [0, 0] _ _ _ _ w4 rfl rfl (by decide) (by simp)).mono ?_; rintro e wg ⟨rfl, rfl⟩)
      all_goals
        go_ret
        exact ⟨rfl, EF.alloc _⟩
end Go.Proofs.Ytkcmlcomonfoiaa

/-
  The walk of the law MasseyMakes.
-/
import Derived.Test.YtkcmlcomonfoiaaMassey3
set_option linter.unusedVariables false
set_option linter.unusedSimpArgs false
namespace Wm
theorem Gen.made {s C : Nat → Bool} {L n i : Nat} (h : Gen s C L n) (h1 : L ≤ i) (h2 : i < n) : xs (fun k => C (k + 1) && s (i - 1 - k)) L = s i := by
  have := h.2.2 i h1 h2
  unfold dot at this
  rw [xs_first] at this
  rw [h.2.1] at this
  have e : xs (fun k => C (k + 1) && s (i - (k + 1))) L = xs (fun k => C (k + 1) && s (i - 1 - k)) L := xs_congr _ fun k hk => by rw [show i - (k + 1) = i - 1 - k by omega]
  rw [e] at this
  revert this
  simp only [Nat.sub_zero, Bool.true_and]
  cases s i <;> cases xs (fun k => C (k + 1) && s (i - 1 - k)) L <;> simp
end Wm
namespace Go.Proofs.Ytkcmlcomonfoiaa
open Go.RowKit Go.BigFrame

set_option maxRecDepth 100000 in
set_option maxHeartbeats 1000000 in
theorem makes_law (A : Option Addr) (n c : Nat) (l : List Nat) (w : World) (S : SliceIn w A n c 1 1 (nats .u8 l)) (h8 : ∀ x ∈ l, x < 256) :
    Calls Try.prog 3 #[.slice A n c] w fun e w' => e = .returned (.bool true) ∧ Ext w w' := by
  have CT := hide (fun (w' : World) (E : Ext w w') => tape_any A n c l w' ⟨S.1.keep E, S.2⟩ h8)
  clear S h8
  go_enter Try.func3, Try.ntmps3
  go_wp2_with fail
  refine (masseys_any w).mono ?_
  rintro e w1 ⟨rfl, E1⟩
  go_wp2_with fail
  refine (unhide CT w1 E1).mono ?_
  rintro e w2 ⟨⟨v, rfl, hown⟩, E2⟩
  have EE := E1.trans E2
  obtain ⟨A2, c2, rfl, R, hc1, hc2, -⟩ := row_of_own hown
  obtain ⟨m, hm⟩ : ∃ m, m = min n 60 := ⟨_, rfl⟩
  rw [← hm] at R hc1 ⊢
  have hm60 : m ≤ 60 := by omega
  clear hm hown E1 E2 CT
  obtain ⟨f, hf⟩ : ∃ f, f = tapeF l := ⟨_, rfl⟩
  rw [← hf] at R
  clear hf
  go_wp2_with fail
  refine (Rule_ok A2 m c2 f w2 R hm60).mono ?_
  rintro e w3 ⟨⟨C, B, L, g, v, hst, rfl, hmd⟩, E3⟩
  obtain ⟨A3, c3, rfl, R3, -⟩ := hmd.open_
  have hR3 : RowB w3 A3 L (fun k => C (k + 1)) := R3
  have HR3 := hide hR3
  have HR := hide (show RowB w3 A2 m f from Row.keep R E3)
  have hLm := hst.le
  have HST := hide hst
  have hLI : decide ((m : Int) < (L : Int)) = false := decide_eq_false (by omega)
  have hLN : decide (m < L) = false := decide_eq_false (by omega)
  have hEX := EE.trans E3
  clear hst R R3 hR3 hmd EE E3
  unfold maxLen at hc2
  go_wp2
  go_loopw [2, 5, 6, 7] (fun r i _ _ wr => r = .bool false ∧  ∃ k : Nat, L ≤ k ∧ k ≤ m ∧ i = .int .i64 k ∧ wr = w3) (fun _ i _ _ _ => m - (intOf i).toNat)
  case atStart => exact ⟨rfl, L, Nat.le_refl _, by omega, rfl, rfl⟩
  case round =>
    obtain ⟨rfl, k, hk0, hk, rfl, rfl⟩ := hrel
    by_cases hlt : k < m
    · have CN := hide (Next_ok A2 k c2 f A3 L c3 (fun k => C (k + 1)) wr ((unhide HR).take hk) (unhide HR3) (by omega) hk0)
      have hmade := (unhide HST).1.made hk0 hlt
      rw [hmade] at CN
      obtain ⟨b, o, rfl, hb, hc⟩ := (unhide HR).bit hlt
      have hkI : (k : Int) ≤ (c2 : Int) := by omega
      clear hmade HR HR3 HST
      generalize (f k).toNat = y at *
      go_wp2_with fail
      refine (unhide CN).mono ?_
      rintro e w' ⟨rfl, rfl⟩
      go_wp2
      go_roundw
      case rel => exact ⟨rfl, k + 1, by omega, by omega, num_eqM (by omega), by first | rfl | trivial⟩
      case measure => simp [intOf]; omega
    · obtain rfl : k = m := by omega
      clear HR HR3 HST
      go_wp2
      go_ret
      exact ⟨rfl, hEX⟩
end Go.Proofs.Ytkcmlcomonfoiaa

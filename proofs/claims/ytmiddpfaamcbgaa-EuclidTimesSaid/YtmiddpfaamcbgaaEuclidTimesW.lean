/-
  The walk of the law EuclidTimes.
-/
import Derived.Test.YtmiddpfaamcbgaaEuclidDividesW
import Derived.Test.YtmiddpfaamcbgaaLcm0
namespace Go.Proofs.Ytmiddpfaamcbgaa
open Go.RowKit

set_option maxHeartbeats 1000000 in
theorem times_any (a b c : Int) (w : World) :
    Calls Try.prog 6 #[.int .i64 a, .int .i64 b, .int .i64 c] w fun e w' => e = .returned (.bool true) ∧ Ext w w' := by
  obtain ⟨A, a0, a1, cA⟩ := small_ex a
  obtain ⟨B, b0, b1, cB⟩ := small_ex b
  obtain ⟨C, c0, c1, cC⟩ := small_ex c
  have k0 := fun w : World => Lcm_ok 4 6 w (by omega) (by omega)
  rw [show Int.lcm 4 6 = 12 from by decide] at k0
  have K0 := hide k0
  clear k0
  have h1 := Wm.gcd_le_bound (a := A) (b := B) (M := 1000) (by omega) (by omega)
  have h2 := Wm.gcd_le_bound (a := A) (b := C) (M := 1000) (by omega) (by omega)
  have h3 := Wm.lcm_le_bound (a := A) (b := B) (M := 1000) (N := 1000) (by omega) (by omega)
  have h4 := Wm.lcm_le_bound (a := B) (b := C) (M := 1000) (N := 1000) (by omega) (by omega)
  have k1 := hide (fun w : World => Gcd_ok A B w (by omega) (by omega))
  have k2 := hide (fun w : World => Lcm_ok A B w (by omega) (by omega))
  have k3 := hide (fun w : World => Lcm_ok B C w (by omega) (by omega))
  have k4 := hide (fun w : World => Gcd_ok A (Int.lcm B C) w (by omega) (by omega))
  have k5 := hide (fun w : World => Gcd_ok A C w (by omega) (by omega))
  have k6 := hide (fun w : World => Lcm_ok (Int.gcd A B) (Int.gcd A C) w (by omega) (by omega))
  rw [Wm.int_gcd_lcm] at k4
  have hp : (Int.gcd A B : Int) * (Int.lcm A B : Int) = ((A * B).natAbs : Int) := by
    rw [Int.natAbs_mul, ← Int.gcd_mul_lcm A B, Int.natCast_mul]
  have m1 := Wm.mul_bound A B 1000 1000 (by omega) (by omega)
  have m2 : (Int.gcd A B : Int) * (Int.lcm A B : Int) ≤ 1000000 := by rw [hp]; omega
  have m3 : 0 ≤ (Int.gcd A B : Int) * (Int.lcm A B : Int) := by rw [hp]; omega
  have m4 : -A * B = -(A * B) := Int.neg_mul A B
  generalize Int.lcm (Int.gcd A B : Int) (Int.gcd A C : Int) = y at *
  generalize Int.gcd A C = ac at *
  generalize Int.lcm B C = bc at *
  generalize Int.gcd A B = g at *
  generalize Int.lcm A B = l at *
  have HP := hide hp
  clear hp
  go_enter Try.func6, Try.ntmps6
  go_wp2_with fail
  refine (unhide K0 _).mono ?_
  rintro e w' ⟨rfl, n, rfl⟩
  go_wp2_with fail
  refine (gcds_any _).mono ?_
  rintro e w' ⟨rfl, n, rfl⟩
  go_wp2_with fail
  refine (unhide cA _).mono ?_
  rintro e w' ⟨rfl, rfl⟩
  go_wp2_with fail
  refine (unhide cB _).mono ?_
  rintro e w' ⟨rfl, rfl⟩
  go_wp2_with fail
  refine (unhide cC _).mono ?_
  rintro e w' ⟨rfl, rfl⟩
  go_wp2_with fail
  refine (unhide k1 _).mono ?_
  rintro e w' ⟨rfl, n1, rfl⟩
  go_wp2_with fail
  refine (unhide k2 _).mono ?_
  rintro e w' ⟨rfl, n2, rfl⟩
  go_wp2_with fail
  refine (unhide k3 _).mono ?_
  rintro e w' ⟨rfl, n3, rfl⟩
  go_wp2_with fail
  refine (unhide k4 _).mono ?_
  rintro e w' ⟨rfl, n4, rfl⟩
  go_wp2_with fail
  refine (unhide k5 _).mono ?_
  rintro e w' ⟨rfl, n5, rfl⟩
  go_wp2_with fail
  refine (unhide k6 _).mono ?_
  rintro e w' ⟨rfl, n6, rfl⟩
  go_wp2_with fail
  refine (good_made [0, 0, 0, 0, 0, 0] _ _ _ _ rfl rfl (by decide)).mono ?_
  rintro e w' ⟨rfl, rfl⟩
  go_wp2
  all_goals
    have hp := unhide HP
    first
    | (exfalso; omega)
    | (clear hp
       go_ret
       exact ⟨rfl, ((Ext.refl _).drewN _).alloc _⟩)

end Go.Proofs.Ytmiddpfaamcbgaa

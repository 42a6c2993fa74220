/-
  The walks of the laws RestRing, RestPows and RestUndone.
-/
import Derived.Test.YtmiddpfaamcbgaaRest1
namespace Go.Proofs.Ytmiddpfaamcbgaa
open Go.RowKit

theorem rests_any (w : World) : Calls Try.prog 22 #[] w fun e w' => e = .returned (.bool true) ∧ w' = w := by
  have c1 := hide (fun w : World => of_ok (-1) 7 w (by omega) (by omega))
  rw [show ((-1 : Int) % 7) = 6 from by decide] at c1
  go_enter Try.func22, Try.ntmps22
  go_wp2_with fail
  refine (unhide c1 _).mono ?_
  rintro e w' ⟨rfl, rfl⟩
  go_wp2
  go_ret
  exact ⟨rfl, rfl⟩

set_option maxHeartbeats 400000 in
theorem ring_any (a b m : Int) (w : World) :
    Calls Try.prog 7 #[.int .i64 a, .int .i64 b, .int .i64 m] w fun e w' => e = .returned (.bool true) ∧ Ext w w' := by
  by_cases hm : 1 ≤ m ∧ m ≤ 1000000
  · have c1 := hide (fun w : World => of_ok a m w hm.1 hm.2)
    have c2 := hide (fun w : World => of_ok b m w hm.1 hm.2)
    obtain ⟨A, a0, a1, -, cA⟩ := within_ex a 1073741824 (by omega) (by omega)
    obtain ⟨B, b0, b1, -, cB⟩ := within_ex b 1073741824 (by omega) (by omega)
    have hx := Wm.emod_bound A (show 0 < m by omega)
    have hy := Wm.emod_bound B (show 0 < m by omega)
    have c3 := hide (fun w : World => of_ok A m w hm.1 hm.2)
    have c4 := hide (fun w : World => of_ok B m w hm.1 hm.2)
    have c5 := hide (fun w : World => of_ok (A + B) m w hm.1 hm.2)
    have c6 := hide (fun w : World => of_ok (A % m + B % m) m w hm.1 hm.2)
    have c7 := hide (fun w : World => of_ok (A * B) m w hm.1 hm.2)
    have c8 := hide (fun w : World => of_ok (A % m * (B % m)) m w hm.1 hm.2)
    rw [← Int.add_emod] at c6
    rw [← Int.mul_emod] at c8
    have p1 := Wm.mul_bound A B 1073741824 1073741824 (by omega) (by omega)
    have p2 := Wm.mul_bound (A % m) (B % m) 1000000 1000000 (by omega) (by omega)
    generalize (A + B) % m = s at *
    generalize (A * B) % m = p at *
    generalize A % m = x at *
    generalize B % m = y at *
    generalize a % m = a' at *
    generalize b % m = b' at *
    go_enter Try.func7, Try.ntmps7
    go_wp2_with fail
    refine (rests_any _).mono ?_
    rintro e w' ⟨rfl, rfl⟩
    go_wp2_with fail
    refine (unhide c1 _).mono ?_
    rintro e w' ⟨rfl, rfl⟩
    go_wp2_with fail
    refine (unhide c2 _).mono ?_
    rintro e w' ⟨rfl, rfl⟩
    go_wp2_with fail
    refine (unhide cA _).mono ?_
    rintro e w' ⟨rfl, rfl⟩
    go_wp2_with fail
    refine (unhide cB _).mono ?_
    rintro e w' ⟨rfl, rfl⟩
    go_wp2_with fail
    refine (unhide c3 _).mono ?_
    rintro e w' ⟨rfl, rfl⟩
    go_wp2_with fail
    refine (unhide c4 _).mono ?_
    rintro e w' ⟨rfl, rfl⟩
    go_wp2_with fail
    refine (unhide c5 _).mono ?_
    rintro e w' ⟨rfl, rfl⟩
    go_wp2_with fail
    refine (unhide c6 _).mono ?_
    rintro e w' ⟨rfl, rfl⟩
    go_wp2_with fail
    refine (unhide c7 _).mono ?_
    rintro e w' ⟨rfl, rfl⟩
    go_wp2_with fail
    refine (unhide c8 _).mono ?_
    rintro e w' ⟨rfl, rfl⟩
    go_wp2_with fail
    refine (good_made [0, 0, 0, 0, 0, 0] _ _ _ _ rfl rfl (by decide)).mono ?_
    rintro e w' ⟨rfl, rfl⟩
    go_wp2
    go_ret
    exact ⟨rfl, (Ext.refl _).alloc _⟩
  · have c1 := hide (fun w : World => of_bad a m w hm)
    have c2 := hide (fun w : World => of_bad b m w hm)
    clear hm
    go_enter Try.func7, Try.ntmps7
    go_wp2_with fail
    refine (rests_any _).mono ?_
    rintro e w' ⟨rfl, rfl⟩
    go_wp2_with fail
    refine (unhide c1 _).mono ?_
    rintro e w' ⟨rfl, rfl⟩
    go_wp2_with fail
    refine (unhide c2 _).mono ?_
    rintro e w' ⟨rfl, rfl⟩
    go_wp2
    go_ret
    exact ⟨rfl, Ext.refl _⟩

set_option maxHeartbeats 400000 in
theorem pows_any (a n k m : Int) (w : World) :
    Calls Try.prog 8 #[.int .i64 a, .int .i64 n, .int .i64 k, .int .i64 m] w fun e w' => e = .returned (.bool true) ∧ Ext w w' := by
  have c0 := hide (fun w : World => pow_ok 2 10 1000 w (by omega) (by omega) (by omega))
  rw [show ((2 : Int) ^ 10 % 1000) = 24 from by decide] at c0
  obtain ⟨N', n0, n1, -, cN⟩ := within_ex n 1048576 (by omega) (by omega)
  obtain ⟨K', k0, k1, -, cK⟩ := within_ex k 1048576 (by omega) (by omega)
  obtain ⟨N, rfl⟩ := Int.eq_ofNat_of_zero_le n0
  obtain ⟨K, rfl⟩ := Int.eq_ofNat_of_zero_le k0
  by_cases hm : 1 ≤ m ∧ m ≤ 1000000
  · have hnk : N * K ≤ 1048576 * 1048576 := Nat.mul_le_mul (by omega) (by omega)
    have c1 := hide (fun w : World => pow_ok a N m w (by omega) hm.1 hm.2)
    have c2 := hide (fun w : World => pow_ok a K m w (by omega) hm.1 hm.2)
    have c3 := hide (fun w : World => pow_ok a (N + K) m w (by omega) hm.1 hm.2)
    have c4 := hide (fun w : World => pow_ok (a ^ N % m) K m w (by omega) hm.1 hm.2)
    have c5 := hide (fun w : World => pow_ok a (N * K) m w (by omega) hm.1 hm.2)
    rw [Wm.pow_emod, ← Int.pow_mul] at c4
    have hs : a ^ (N + K) % m = (a ^ N % m) * (a ^ K % m) % m := by rw [Int.pow_add, Int.mul_emod]
    have hx := Wm.emod_bound (a ^ N) (show 0 < m by omega)
    have hy := Wm.emod_bound (a ^ K) (show 0 < m by omega)
    have p2 := Wm.mul_bound (a ^ N % m) (a ^ K % m) 1000000 1000000 (by omega) (by omega)
    have p3 : 0 ≤ (a ^ N % m) * (a ^ K % m) := Int.mul_nonneg hx.1 hy.1
    rw [hs] at c3
    generalize a ^ (N * K) % m = u at *
    generalize a ^ N % m = x at *
    generalize a ^ K % m = y at *
    rw [Int.natCast_add] at c3
    rw [Int.natCast_mul] at c5
    clear hs
    have hnk' : (N : Int) * (K : Int) ≤ 1099511627776 := by rw [← Int.natCast_mul]; omega
    have hnk0 : 0 ≤ (N : Int) * (K : Int) := by rw [← Int.natCast_mul]; omega
    clear hnk
    go_enter Try.func8, Try.ntmps8
    go_wp2_with fail
    refine (unhide c0 _).mono ?_
    rintro e w' ⟨rfl, d0, rfl⟩
    go_wp2_with fail
    refine (unhide cN _).mono ?_
    rintro e w' ⟨rfl, rfl⟩
    go_wp2_with fail
    refine (unhide cK _).mono ?_
    rintro e w' ⟨rfl, rfl⟩
    go_wp2_with fail
    refine (unhide c1 _).mono ?_
    rintro e w' ⟨rfl, d1, rfl⟩
    go_wp2_with fail
    refine (unhide c2 _).mono ?_
    rintro e w' ⟨rfl, d2, rfl⟩
    go_wp2_with fail
    refine (unhide c3 _).mono ?_
    rintro e w' ⟨rfl, d3, rfl⟩
    go_wp2_with fail
    refine (unhide c4 _).mono ?_
    rintro e w' ⟨rfl, d4, rfl⟩
    go_wp2_with fail
    refine (unhide c5 _).mono ?_
    rintro e w' ⟨rfl, d5, rfl⟩
    go_wp2_with fail
    refine (good_made [0, 0, 0, 0] _ _ _ _ rfl rfl (by decide)).mono ?_
    rintro e w' ⟨rfl, rfl⟩
    go_wp2
    go_ret
    exact ⟨rfl, ((Ext.refl _).drewN _).alloc _⟩
  · have c1 := hide (fun w : World => pow_bad a N m w (.inr hm))
    clear hm
    go_enter Try.func8, Try.ntmps8
    go_wp2_with fail
    refine (unhide c0 _).mono ?_
    rintro e w' ⟨rfl, d0, rfl⟩
    go_wp2_with fail
    refine (unhide cN _).mono ?_
    rintro e w' ⟨rfl, rfl⟩
    go_wp2_with fail
    refine (unhide cK _).mono ?_
    rintro e w' ⟨rfl, rfl⟩
    go_wp2_with fail
    refine (unhide c1 _).mono ?_
    rintro e w' ⟨rfl, rfl⟩
    go_wp2
    go_ret
    exact ⟨rfl, (Ext.refl _).drewN _⟩

end Go.Proofs.Ytmiddpfaamcbgaa

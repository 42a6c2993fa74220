/-
  The walks of the laws PrimeNext and RestFermat.
-/
import Derived.Test.YtmiddpfaamcbgaaPrimeW
import Derived.Test.YtmiddpfaamcbgaaRest1
import Derived.Test.YtmiddpfaamcbgaaUnits0
namespace Go.Proofs.Ytmiddpfaamcbgaa
open Go.RowKit Go.BigFrame

theorem good_ok2 (T : TypeId) (w : World) : Calls Try.prog 20 #[.slice (some ⟨w.heap.size, 0, none⟩) 2 2] (w.alloc (.cells #[.int .i64 0, .int .i64 0] T)) fun e w' => e = .returned (.bool true) ∧ w' = w.alloc (.cells #[.int .i64 0, .int .i64 0] T) :=
  good_made [0, 0] 2 _ T w rfl rfl (by decide)

theorem next90 : IsNext 90 97 := by
  refine ⟨Wm.prime_97, by omega, fun k h1 h2 => ?_⟩
  obtain rfl | rfl | rfl | rfl | rfl | rfl | rfl : k = 90 ∨ k = 91 ∨ k = 92 ∨ k = 93 ∨ k = 94 ∨ k = 95 ∨ k = 96 := by omega
  · exact Wm.not_prime_of_dvd (e := 2) (by omega) (by omega) (by decide)
  · exact Wm.not_prime_91
  · exact Wm.not_prime_of_dvd (e := 2) (by omega) (by omega) (by decide)
  · exact Wm.not_prime_of_dvd (e := 3) (by omega) (by omega) (by decide)
  · exact Wm.not_prime_of_dvd (e := 2) (by omega) (by omega) (by decide)
  · exact Wm.not_prime_of_dvd (e := 5) (by omega) (by omega) (by decide)
  · exact Wm.not_prime_of_dvd (e := 2) (by omega) (by omega) (by decide)

set_option maxRecDepth 100000 in
set_option maxHeartbeats 1000000 in
theorem primeNext_any (n : Int) (w : World) :
    Calls Try.prog 12 #[.int .i64 n] w fun e w' => e = .returned (.bool true) ∧ Ext w w' := by
  obtain ⟨M', m0, m1, -, cM⟩ := within_ex n 499999 (by omega) (by omega)
  obtain ⟨M, rfl⟩ := Int.eq_ofNat_of_zero_le m0
  have C0 := hide (fun w : World => Next_ok 90 97 next90 (by omega) w)
  obtain ⟨N, hN⟩ : ∃ N : Nat, N = 2 + M := ⟨_, rfl⟩
  have hN' : (2 : Int) + (M : Int) = (N : Int) := by omega
  have hN1 : ((N + 1 : Nat) : Int) = (N : Int) + 1 := by omega
  have hNM : 2 ≤ N := by omega
  have hNM2 : N ≤ 500000 := by omega
  obtain ⟨q, hq, hq1, hq2⟩ := Wm.bertrand hNM hNM2
  obtain ⟨p, hp, hpq⟩ := next_exists (n := N + 1) hq (by omega)
  have c1 := fun w : World => Next_ok (N + 1) p hp (by omega) w
  have c2 := fun w : World => Is_ok p (by omega) w
  rw [Wm.isp_true hp.1] at c2
  rw [hN1] at c1
  have C1 := hide c1
  have C2 := hide c2
  have hp1 : N < p := hp.2.1
  have hp2 : (p : Int) < 2 * (N : Int) := by omega
  have hp4 : decide (2 * (N : Int) ≤ (p : Int)) = false := decide_eq_false (by omega)
  have hp5 : decide (p ≤ N) = false := decide_eq_false (by omega)
  have hp3 := hp.2.2
  have HN := hide hp3
  have HN' := hide hN'
  have hNM3 : (N : Int) ≤ 500000 := by omega
  clear c1 c2 hp hq hp3 hN hN' hN1 hpq hq1 hq2 hNM2
  go_enter Try.func12, Try.ntmps12
  go_wp2_with fail
  refine (unhide C0 _).mono ?_
  rintro e w' ⟨rfl, rfl⟩
  go_wp2_with fail
  refine (primes_any _).mono ?_
  rintro e w' ⟨rfl, E1⟩
  go_wp2_with fail
  refine (unhide cM _).mono ?_
  rintro e w' ⟨rfl, rfl⟩
  go_wp2_with fail
  rw [unhide HN']
  clear m0 m1
  go_wp2_with fail
  refine (unhide C1 _).mono ?_
  rintro e w' ⟨rfl, rfl⟩
  go_wp2_with fail
  refine (unhide C2 _).mono ?_
  rintro e w' ⟨rfl, rfl⟩
  go_wp2_with fail
  refine (good_ok2 _ _).mono ?_
  rintro e w' ⟨rfl, rfl⟩
  go_wp2_with fail
  go_loop [9] (fun i => ∃ k : Nat, N + 1 ≤ k ∧ k ≤ p ∧ i = .int .i64 k) (fun i => p - (intOf i).toNat)
  case atStart => exact ⟨N + 1, by omega, by omega, by go_num⟩
  case round =>
    obtain ⟨k, h1, h2, rfl⟩ := hrel
    by_cases h : k < p
    · have hk := Wm.isp_false (unhide HN k h1 h)
      have c1 := fun w : World => Is_ok k (by omega) w
      rw [hk] at c1
      have C3 := hide c1
      clear c1 hk
      go_wp2_with fail
      refine (unhide C3 _).mono ?_
      rintro e w' ⟨rfl, rfl⟩
      go_wp2
      go_round
      case rel => exact ⟨k + 1, by omega, by omega, by go_num⟩
      case measure => simp [intOf]; omega
    · go_wp2
      go_ret
      exact ⟨rfl, E1.alloc _⟩

set_option maxRecDepth 100000 in
set_option maxHeartbeats 1000000 in
theorem restFermat_any (a n : Int) (w : World) :
    Calls Try.prog 13 #[.int .i64 a, .int .i64 n] w fun e w' => e = .returned (.bool true) ∧ Ext w w' := by
  have c0 := hide (fun w : World => pow_ok 3 4 7 w (by omega) (by omega) (by omega))
  rw [show ((3 : Int) ^ 4 % 7) = 4 from by decide] at c0
  obtain ⟨M', m0, m1, -, cM⟩ := within_ex n 990000 (by omega) (by omega)
  obtain ⟨M, rfl⟩ := Int.eq_ofNat_of_zero_le m0
  obtain ⟨N, hN⟩ : ∃ N : Nat, N = 2 + M := ⟨_, rfl⟩
  have hN' : (2 : Int) + (M : Int) = (N : Int) := by omega
  obtain ⟨p, hp, hpq⟩ := next_exists (n := N) Wm.prime_999983 (by omega)
  have c1 := fun w : World => Next_ok N p hp (by omega) w
  have hpp := hp.1.pos
  have c2 := fun w : World => pow_ok a p p w (by omega) (by omega) (by omega)
  have c3 := fun w : World => of_ok a p w (by omega) (by omega)
  rw [Wm.fermat hp.1] at c2
  have C1 := hide c1
  have C2 := hide c2
  have C3 := hide c3
  have HN' := hide hN'
  clear c1 c2 c3 hp hN hN'
  go_enter Try.func13, Try.ntmps13
  go_wp2_with fail
  refine (unhide c0 _).mono ?_
  rintro e w' ⟨rfl, d0, rfl⟩
  go_wp2_with fail
  refine (unhide cM _).mono ?_
  rintro e w' ⟨rfl, rfl⟩
  go_wp2_with fail
  rw [unhide HN']
  go_wp2_with fail
  refine (unhide C1 _).mono ?_
  rintro e w' ⟨rfl, rfl⟩
  go_wp2_with fail
  refine (unhide C2 _).mono ?_
  rintro e w' ⟨rfl, d1, rfl⟩
  go_wp2_with fail
  refine (unhide C3 _).mono ?_
  rintro e w' ⟨rfl, rfl⟩
  go_wp2_with fail
  refine (good_made [0, 0, 0] _ _ _ _ rfl rfl (by decide)).mono ?_
  rintro e w' ⟨rfl, rfl⟩
  go_wp2
  go_ret
  exact ⟨rfl, ((Ext.refl _).drewN _).alloc _⟩

end Go.Proofs.Ytmiddpfaamcbgaa

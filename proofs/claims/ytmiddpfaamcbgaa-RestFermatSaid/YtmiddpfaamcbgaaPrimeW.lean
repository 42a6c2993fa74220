/-
  The walks of the laws PrimeWilson, PrimeEuclid, PrimeNext.
-/
import Derived.Test.YtmiddpfaamcbgaaPrime1
import Derived.Test.YtmiddpfaamcbgaaArith1
namespace Go.Proofs.Ytmiddpfaamcbgaa
open Go.RowKit Go.BigFrame

set_option maxHeartbeats 400000 in
theorem primes_any (w : World) : Calls Try.prog 26 #[] w fun e w' => e = .returned (.bool true) ∧ Ext w w' := by
  have c1 := fun w : World => Is_ok 97 (by omega) w
  have c2 := fun w : World => Is_ok 91 (by omega) w
  rw [Wm.isp_true Wm.prime_97] at c1
  rw [Wm.isp_false Wm.not_prime_91] at c2
  have C1 := hide c1
  have C2 := hide c2
  clear c1 c2
  go_enter Try.func26, Try.ntmps26
  go_wp2_with fail
  refine (unhide C1 _).mono ?_
  rintro e w' ⟨rfl, rfl⟩
  go_wp2_with fail
  refine (unhide C2 _).mono ?_
  rintro e w' ⟨rfl, rfl⟩
  go_wp2_with fail
  refine (good_made [0, 0] _ _ _ _ rfl rfl (by decide)).mono ?_
  rintro e w' ⟨rfl, rfl⟩
  go_wp2
  go_ret
  exact ⟨rfl, (Ext.refl _).alloc _⟩

set_option maxRecDepth 100000 in
set_option maxHeartbeats 1000000 in
theorem wilson_any (n : Int) (w : World) :
    Calls Try.prog 10 #[.int .i64 n] w fun e w' => e = .returned (.bool true) ∧ Ext w w' := by
  obtain ⟨M, m0, m1, -, cM⟩ := within_ex n 2000 (by omega) (by omega)
  obtain ⟨M', rfl⟩ := Int.eq_ofNat_of_zero_le m0
  obtain ⟨N, hN⟩ : ∃ N : Nat, N = 2 + M' := ⟨_, rfl⟩
  have hN' : (2 : Int) + (M' : Int) = (N : Int) := by omega
  have HN := hide hN'
  have n2 : 2 ≤ N := by omega
  have n3 : N ≤ 2001 := by omega
  have hw := Wm.wilson n2 n3
  have c2 := fun w : World => Is_ok N (by omega) w
  have hlt := fun j => Wm.wseq_lt n2 j
  have HL := hide hlt
  clear hN hN' hlt
  by_cases hx : Wm.wseq N (N - 2) = N - 1
  all_goals
    have hxd : decide (Wm.wseq N (N - 2) = N - 1) = decide (Wm.wseq N (N - 2) = N - 1) := rfl
    rw [hw] at c2
    first
    | (rw [decide_eq_true hx] at c2; have hx' : ((Wm.wseq N (N - 2) : Int) == (N : Int) - 1) = true := by (rw [beq_iff_eq]; omega))
    | (rw [decide_eq_false hx] at c2; have hx' : ((Wm.wseq N (N - 2) : Int) == (N : Int) - 1) = false := by (rw [beq_eq_false_iff_ne]; omega))
    have C2 := hide c2
    have HX := hide hx'
    clear c2 hx' hx hw hxd
    go_enter Try.func10, Try.ntmps10
    go_wp2_with fail
    refine (primes_any _).mono ?_
    rintro e w' ⟨rfl, E1⟩
    go_wp2_with fail
    refine (unhide cM _).mono ?_
    rintro e w' ⟨rfl, rfl⟩
    go_wp2_with fail
    rw [unhide HN]
    go_wp2_with fail
    refine (unhide C2 _).mono ?_
    rintro e w' ⟨rfl, rfl⟩
    go_wp2_with fail
    go_loop [5, 6] (fun x k => ∃ j : Nat, j ≤ N - 2 ∧ x = .int .i64 (Wm.wseq N j) ∧ k = .int .i64 ((j : Int) + 2)) (fun _ k => N - (intOf k).toNat)
    case atStart => exact ⟨0, by omega, rfl, rfl⟩
    case round =>
      obtain ⟨j, hj, rfl, rfl⟩ := hrel
      by_cases hjl : j < N - 2
      · have l1 := unhide HL j
        have l2 := unhide HL (j + 1)
        have hst : (Wm.wseq N j : Int) * ((j : Int) + 2) % (N : Int) = (Wm.wseq N (j + 1) : Int) := by simp only [Wm.wseq]; push_cast; rfl
        have p1 := Wm.mul_bound (Wm.wseq N j) ((j : Int) + 2) 2001 2001 (by omega) (by omega)
        have p2 : 0 ≤ (Wm.wseq N j : Int) * ((j : Int) + 2) := Int.mul_nonneg (by omega) (by omega)
        have HS := hide hst
        clear hst
        go_wp2
        go_round
        case rel => exact ⟨j + 1, by omega, by rw [← unhide HS], by go_num⟩
        case measure => simp [intOf]; omega
      · obtain rfl : j = N - 2 := by omega
        have hx := unhide HX
        have hk : ((N - 2 : Nat) : Int) + 2 = (N : Int) := by omega
        rw [hk]
        clear hk
        go_wp2
        go_ret
        exact ⟨rfl, E1⟩

set_option maxRecDepth 100000 in
set_option maxHeartbeats 1000000 in
theorem euclid_any (p a b : Int) (w : World) :
    Calls Try.prog 11 #[.int .i64 p, .int .i64 a, .int .i64 b] w fun e w' => e = .returned (.bool true) ∧ Ext w w' := by
  obtain ⟨P', p0, p1, -, cP⟩ := within_ex p 1000 (by omega) (by omega)
  obtain ⟨P, rfl⟩ := Int.eq_ofNat_of_zero_le p0
  obtain ⟨A, a0, a1, cA⟩ := small_ex a
  obtain ⟨B, b0, b1, cB⟩ := small_ex b
  have c1 := fun w : World => Is_ok P (by omega) w
  have m1 := Wm.mul_bound A B 1000 1000 (by omega) (by omega)
  by_cases hp : Wm.Prime P
  · rw [Wm.isp_true hp] at c1
    have C1 := hide c1
    clear c1
    have hpp := hp.pos
    have hdv : (A * B).tmod P = 0 → A.tmod P = 0 ∨ B.tmod P = 0 := fun h => by
      have h1 := Int.dvd_of_tmod_eq_zero h
      have h2 := Int.natAbs_dvd_natAbs.2 h1
      rw [Int.natAbs_mul, Int.natAbs_natCast] at h2
      rcases hp.dvd_mul h2 with h3 | h3
      · left; exact Wm.tmod_eq_zero_of_dvd (by rw [← Int.natAbs_dvd_natAbs, Int.natAbs_natCast]; exact h3)
      · right; exact Wm.tmod_eq_zero_of_dvd (by rw [← Int.natAbs_dvd_natAbs, Int.natAbs_natCast]; exact h3)
    clear hp
    by_cases hab : (A * B).tmod P = 0
    · rcases hdv hab with h | h
      · clear hdv
        go_enter Try.func11, Try.ntmps11
        go_wp2_with fail
        refine (primes_any _).mono ?_
        rintro e w' ⟨rfl, E1⟩
        go_wp2_with fail
        refine (unhide cP _).mono ?_
        rintro e w' ⟨rfl, rfl⟩
        go_wp2_with fail
        refine (unhide cA _).mono ?_
        rintro e w' ⟨rfl, rfl⟩
        go_wp2_with fail
        refine (unhide cB _).mono ?_
        rintro e w' ⟨rfl, rfl⟩
        go_wp2_with fail
        refine (unhide C1 _).mono ?_
        rintro e w' ⟨rfl, rfl⟩
        go_wp2
        go_ret
        exact ⟨rfl, E1⟩
      · clear hdv
        by_cases h2 : A.tmod P = 0
        all_goals
          go_enter Try.func11, Try.ntmps11
          go_wp2_with fail
          refine (primes_any _).mono ?_
          rintro e w' ⟨rfl, E1⟩
          go_wp2_with fail
          refine (unhide cP _).mono ?_
          rintro e w' ⟨rfl, rfl⟩
          go_wp2_with fail
          refine (unhide cA _).mono ?_
          rintro e w' ⟨rfl, rfl⟩
          go_wp2_with fail
          refine (unhide cB _).mono ?_
          rintro e w' ⟨rfl, rfl⟩
          go_wp2_with fail
          refine (unhide C1 _).mono ?_
          rintro e w' ⟨rfl, rfl⟩
          go_wp2
          go_ret
          exact ⟨rfl, E1⟩
    · clear hdv
      go_enter Try.func11, Try.ntmps11
      go_wp2_with fail
      refine (primes_any _).mono ?_
      rintro e w' ⟨rfl, E1⟩
      go_wp2_with fail
      refine (unhide cP _).mono ?_
      rintro e w' ⟨rfl, rfl⟩
      go_wp2_with fail
      refine (unhide cA _).mono ?_
      rintro e w' ⟨rfl, rfl⟩
      go_wp2_with fail
      refine (unhide cB _).mono ?_
      rintro e w' ⟨rfl, rfl⟩
      go_wp2_with fail
      refine (unhide C1 _).mono ?_
      rintro e w' ⟨rfl, rfl⟩
      go_wp2
      go_ret
      exact ⟨rfl, E1⟩
  · rw [Wm.isp_false hp] at c1
    have C1 := hide c1
    clear c1 hp
    go_enter Try.func11, Try.ntmps11
    go_wp2_with fail
    refine (primes_any _).mono ?_
    rintro e w' ⟨rfl, E1⟩
    go_wp2_with fail
    refine (unhide cP _).mono ?_
    rintro e w' ⟨rfl, rfl⟩
    go_wp2_with fail
    refine (unhide cA _).mono ?_
    rintro e w' ⟨rfl, rfl⟩
    go_wp2_with fail
    refine (unhide cB _).mono ?_
    rintro e w' ⟨rfl, rfl⟩
    go_wp2_with fail
    refine (unhide C1 _).mono ?_
    rintro e w' ⟨rfl, rfl⟩
    go_wp2
    go_ret
    exact ⟨rfl, E1⟩

end Go.Proofs.Ytmiddpfaamcbgaa

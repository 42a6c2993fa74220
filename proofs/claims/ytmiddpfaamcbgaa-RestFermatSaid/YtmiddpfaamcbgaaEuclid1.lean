/-
  The contracts of the functions of package euclid.
-/
import Derived.Test.YtmiddpfaamcbgaaBase
import Derived.Test.YtmiddpfaamcbgaaEuclid0
import Derived.Test.YtmiddpfaamcbgaaArith0
namespace Go.Proofs.Ytmiddpfaamcbgaa
open Go.RowKit

set_option maxHeartbeats 400000 in
theorem steps_ok (a b : Nat) (w : World) (ha : a ≤ 1000000000) (hb : b ≤ 1000000000) :
    Calls Try.prog 15 #[.int .i64 (a : Int), .int .i64 (b : Int)] w fun e w' => e = .returned (.tuple #[.int .i64 (Wm.nsteps a b : Int), .int .i64 0]) ∧ ∃ n, w' = w.drewN n := by
  go_enter Try.func15, Try.ntmps15
  go_wp2
  go_loopw [0, 1, 6] (fun x y k wr => ∃ a' b' n : Nat, a' ≤ 1000000000 ∧ b' ≤ 1000000000 ∧ x = .int .i64 a' ∧ y = .int .i64 b' ∧ k = .int .i64 n ∧ Hid (n + Wm.nsteps a' b' = Wm.nsteps a b) ∧ n ≤ 1000000000 ∧ ∃ d, wr = w.drewN d) (fun _ y _ _ => (intOf y).toNat)
  case atStart => exact ⟨a, b, 0, ha, hb, rfl, rfl, rfl, hide (by omega), by omega, 0, rfl⟩
  case round =>
    obtain ⟨a', b', n, ha', hb', rfl, rfl, rfl, hn, hn9, d, rfl⟩ := hrel
    by_cases h : b' = 0
    · subst h
      go_wp2
      go_ret2
      have := unhide hn
      rw [Wm.nsteps_zero] at this
      exact ⟨by rw [← this]; rfl, d, rfl⟩
    · have hp : 0 < b' := by omega
      have hm := Nat.mod_lt a' hp
      go_wp2
      go_quiet (fail)
      go_wp2
      have e := unhide hn
      rw [Wm.nsteps_pos a' b' hp] at e
      have := Wm.nsteps_le a b
      go_roundw
      case rel => exact ⟨b', a' % b', n + 1, hb', by omega, rfl, by go_num, by go_num, hide (by omega), by omega, _, rfl⟩
      case measure => simp [intOf]; omega

set_option maxHeartbeats 400000 in
theorem steps_bad (a b : Int) (w : World) (h : a < 0 ∨ b < 0 ∨ 1000000000 < a ∨ 1000000000 < b) :
    Calls Try.prog 15 #[.int .i64 a, .int .i64 b] w fun e w' => e = .returned (.tuple #[.int .i64 0, .int .i64 1]) ∧ w' = w := by
  by_cases h1 : a < 0
  · go_enter Try.func15, Try.ntmps15
    go_wp2
    go_ret2
    exact ⟨rfl, rfl⟩
  · by_cases h2 : b < 0
    · go_enter Try.func15, Try.ntmps15
      go_wp2
      go_ret2
      exact ⟨rfl, rfl⟩
    · by_cases h3 : 1000000000 < a
      · go_enter Try.func15, Try.ntmps15
        go_wp2
        go_ret2
        exact ⟨rfl, rfl⟩
      · have h4 : 1000000000 < b := by omega
        go_enter Try.func15, Try.ntmps15
        go_wp2
        go_ret2
        exact ⟨rfl, rfl⟩

theorem in_any (a : Int) (w : World) :
    Calls Try.prog 30 #[.int .i64 a] w fun e w' => e = .returned (.bool (decide (-1000000000 ≤ a ∧ a ≤ 1000000000))) ∧ w' = w := by
  by_cases h1 : -1000000000 ≤ a
  · by_cases h2 : a ≤ 1000000000
    all_goals
      go_enter Try.func30, Try.ntmps30
      go_wp2
      go_ret
      exact ⟨by simp [h1, h2], rfl⟩
  · go_enter Try.func30, Try.ntmps30
    go_wp2
    go_ret
    exact ⟨by simp; omega, rfl⟩
theorem in_yes (a : Int) (w : World) (h1 : -1000000000 ≤ a) (h2 : a ≤ 1000000000) :
    Calls Try.prog 30 #[.int .i64 a] w fun e w' => e = .returned (.bool true) ∧ w' = w :=
  (in_any a w).mono fun _ _ ⟨he, hw⟩ => ⟨by rw [he, decide_eq_true ⟨h1, h2⟩], hw⟩
theorem in_no (a : Int) (w : World) (h : ¬ (-1000000000 ≤ a ∧ a ≤ 1000000000)) :
    Calls Try.prog 30 #[.int .i64 a] w fun e w' => e = .returned (.bool false) ∧ w' = w :=
  (in_any a w).mono fun _ _ ⟨he, hw⟩ => ⟨by rw [he, decide_eq_false h], hw⟩

set_option maxHeartbeats 400000 in
theorem gcd_any (a b : Int) (w : World) (ha : -1000000000 ≤ a ∧ a ≤ 1000000000) (hb : -1000000000 ≤ b ∧ b ≤ 1000000000) :
    Calls Try.prog 31 #[.int .i64 a, .int .i64 b] w fun e w' => e = .returned (.int .i64 (Int.gcd a b : Int)) ∧ ∃ n, w' = w.drewN n := by
  go_enter Try.func31, Try.ntmps31
  go_wp2
  go_loopw [0, 1] (fun x y wr => ∃ a' b' : Int, (-1000000000 ≤ a' ∧ a' ≤ 1000000000) ∧ (-1000000000 ≤ b' ∧ b' ≤ 1000000000) ∧ x = .int .i64 a' ∧ y = .int .i64 b' ∧ Hid (Int.gcd a' b' = Int.gcd a b) ∧ ∃ d, wr = w.drewN d) (fun _ y _ => (intOf y).natAbs)
  case atStart => exact ⟨a, b, ha, hb, rfl, rfl, hide rfl, 0, rfl⟩
  case round =>
    obtain ⟨a', b', ha', hb', rfl, rfl, hg, d, rfl⟩ := hrel
    clear ha hb
    by_cases h : b' = 0
    · subst h
      have e := unhide hg
      rw [Int.gcd_zero] at e
      have E := hide e
      clear e
      by_cases hs : 0 ≤ a'
      · go_wp2
        go_ret
        exact ⟨ret_int (by rw [← unhide E]; omega), d, rfl⟩
      · go_wp2
        go_ret
        exact ⟨ret_int (by rw [← unhide E]; omega), d, rfl⟩
    · have hm := Wm.tmod_abs a' h
      have hm2 : -1000000000 ≤ a'.tmod b' ∧ a'.tmod b' ≤ 1000000000 := by omega
      have e := hide ((Wm.gcd_tmod a' b').trans (unhide hg))
      go_wp2
      go_quiet (fail)
      go_wp2
      go_roundw
      case rel => exact ⟨b', a'.tmod b', hb', hm2, rfl, rfl, e, _, World.drewN_drewN _ _ _⟩
      case measure => simpa [intOf] using hm

set_option maxHeartbeats 400000 in
theorem Gcd_ok (a b : Int) (w : World) (ha : -1000000000 ≤ a ∧ a ≤ 1000000000) (hb : -1000000000 ≤ b ∧ b ≤ 1000000000) :
    Calls Try.prog 17 #[.int .i64 a, .int .i64 b] w fun e w' => e = .returned (.tuple #[.int .i64 (Int.gcd a b : Int), .int .i64 0]) ∧ ∃ n, w' = w.drewN n := by
  go_enter Try.func17, Try.ntmps17
  go_wp2_with fail
  refine (in_yes a _ ha.1 ha.2).mono ?_
  rintro e w' ⟨rfl, rfl⟩
  go_wp2_with fail
  refine (in_yes b _ hb.1 hb.2).mono ?_
  rintro e w' ⟨rfl, rfl⟩
  go_wp2_with fail
  refine (gcd_any a b _ ha hb).mono ?_
  rintro e w' ⟨rfl, n, rfl⟩
  go_wp2
  go_ret2
  exact ⟨rfl, n, rfl⟩

set_option maxHeartbeats 400000 in
theorem Gcd_bad (a b : Int) (w : World) (h : ¬ ((-1000000000 ≤ a ∧ a ≤ 1000000000) ∧ (-1000000000 ≤ b ∧ b ≤ 1000000000))) :
    Calls Try.prog 17 #[.int .i64 a, .int .i64 b] w fun e w' => e = .returned (.tuple #[.int .i64 0, .int .i64 1]) ∧ w' = w := by
  by_cases ha : -1000000000 ≤ a ∧ a ≤ 1000000000
  · have hb : ¬ (-1000000000 ≤ b ∧ b ≤ 1000000000) := fun hb => h ⟨ha, hb⟩
    have c1 := hide (fun w : World => in_yes a w ha.1 ha.2)
    have c2 := hide (fun w : World => in_no b w hb)
    clear h ha hb
    go_enter Try.func17, Try.ntmps17
    go_wp2_with fail
    refine (unhide c1 _).mono ?_
    rintro e w' ⟨rfl, rfl⟩
    go_wp2_with fail
    refine (unhide c2 _).mono ?_
    rintro e w' ⟨rfl, rfl⟩
    go_wp2
    go_ret2
    exact ⟨rfl, rfl⟩
  · have c1 := hide (fun w : World => in_no a w ha)
    clear h ha
    go_enter Try.func17, Try.ntmps17
    go_wp2_with fail
    refine (unhide c1 _).mono ?_
    rintro e w' ⟨rfl, rfl⟩
    go_wp2
    go_ret2
    exact ⟨rfl, rfl⟩

theorem lcm_abs (a b : Int) (hb : b ≠ 0) (ha : a ≠ 0) : ((a.tdiv (Int.gcd a b)) * b).natAbs = Int.lcm a b := by
  have hg : 0 < Int.gcd a b := Int.gcd_pos_of_ne_zero_left b ha
  obtain ⟨q, hq⟩ := Int.gcd_dvd_left a b
  have hgi : (Int.gcd a b : Int) ≠ 0 := by omega
  have e : a.tdiv (Int.gcd a b) = q := by
    conv => lhs; arg 1; rw [hq]
    exact Int.mul_tdiv_cancel_left q hgi
  rw [e, Int.natAbs_mul]
  have h1 : Int.gcd a b * Int.lcm a b = a.natAbs * b.natAbs := Int.gcd_mul_lcm a b
  have h2 : a.natAbs = Int.gcd a b * q.natAbs := by
    conv => lhs; rw [hq]
    rw [Int.natAbs_mul, Int.natAbs_natCast]
  rw [h2, Nat.mul_assoc] at h1
  exact (Nat.eq_of_mul_eq_mul_left hg h1).symm

set_option maxHeartbeats 400000 in
theorem Lcm_ok (a b : Int) (w : World) (ha : -1000000000 ≤ a ∧ a ≤ 1000000000) (hb : -1000000000 ≤ b ∧ b ≤ 1000000000) :
    Calls Try.prog 21 #[.int .i64 a, .int .i64 b] w fun e w' => e = .returned (.tuple #[.int .i64 (Int.lcm a b : Int), .int .i64 0]) ∧ ∃ n, w' = w.drewN n := by
  by_cases h0 : a = 0
  · subst h0
    go_enter Try.func21, Try.ntmps21
    go_wp2_with fail
    refine (Gcd_ok 0 b _ ha hb).mono ?_
    rintro e w' ⟨rfl, n, rfl⟩
    go_wp2
    go_ret2
    exact ⟨by simp [Int.lcm], n, rfl⟩
  · by_cases h1 : b = 0
    · subst h1
      have z0 : (a == 0) = false := by simpa using h0
      go_enter Try.func21, Try.ntmps21
      go_wp2_with fail
      refine (Gcd_ok a 0 _ ha hb).mono ?_
      rintro e w' ⟨rfl, n, rfl⟩
      go_wp2
      go_ret2
      exact ⟨by simp [Int.lcm], n, rfl⟩
    · have z0 : (a == 0) = false := by simpa using h0
      have z1 : (b == 0) = false := by simpa using h1
      have hl := hide (lcm_abs a b h1 h0)
      have hg : 0 < Int.gcd a b := Int.gcd_pos_of_ne_zero_left b h0
      have b1 := Wm.tdiv_bound a (Int.gcd a b) 1000000000 (by omega)
      have b2 := Wm.mul_bound (a.tdiv (Int.gcd a b)) b 1000000000 1000000000 b1 (by omega)
      have c1 := hide (fun w : World => Gcd_ok a b w ha hb)
      generalize Int.gcd a b = g at *
      clear h0 h1
      go_enter Try.func21, Try.ntmps21
      go_wp2_with fail
      refine (unhide c1 _).mono ?_
      rintro e w' ⟨rfl, n, rfl⟩
      go_wp2
      all_goals
        go_ret2
        exact ⟨ret_two (by rw [← unhide hl]; omega), n, rfl⟩
end Go.Proofs.Ytmiddpfaamcbgaa

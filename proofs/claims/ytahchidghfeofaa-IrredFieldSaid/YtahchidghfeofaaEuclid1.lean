/-
  The contracts of the functions of package euclid.
-/
import Derived.Test.YtahchidghfeofaaBase
import Derived.Test.YtahchidghfeofaaEuclid0
import Derived.Test.YtahchidghfeofaaArith0
set_option linter.unusedVariables false
set_option linter.unusedSimpArgs false
namespace Go.Proofs.Ytahchidghfeofaa
open Go.RowKit


theorem in_any (a : Int) (w : World) :
    Calls Try.prog 51 #[.int .i64 a] w fun e w' => e = .returned (.bool (decide (-1000000000 ≤ a ∧ a ≤ 1000000000))) ∧ w' = w := by
  by_cases h1 : -1000000000 ≤ a
  · by_cases h2 : a ≤ 1000000000
    all_goals
      go_enter Try.func51, Try.ntmps51
      go_wp2
      go_ret
      exact ⟨by simp [h1, h2], rfl⟩
  · go_enter Try.func51, Try.ntmps51
    go_wp2
    go_ret
    exact ⟨by simp; omega, rfl⟩
theorem in_yes (a : Int) (w : World) (h1 : -1000000000 ≤ a) (h2 : a ≤ 1000000000) :
    Calls Try.prog 51 #[.int .i64 a] w fun e w' => e = .returned (.bool true) ∧ w' = w :=
  (in_any a w).mono fun _ _ ⟨he, hw⟩ => ⟨by rw [he, decide_eq_true ⟨h1, h2⟩], hw⟩
theorem in_no (a : Int) (w : World) (h : ¬ (-1000000000 ≤ a ∧ a ≤ 1000000000)) :
    Calls Try.prog 51 #[.int .i64 a] w fun e w' => e = .returned (.bool false) ∧ w' = w :=
  (in_any a w).mono fun _ _ ⟨he, hw⟩ => ⟨by rw [he, decide_eq_false h], hw⟩

set_option maxHeartbeats 400000 in
theorem gcd_any (a b : Int) (w : World) (ha : -1000000000 ≤ a ∧ a ≤ 1000000000) (hb : -1000000000 ≤ b ∧ b ≤ 1000000000) :
    Calls Try.prog 52 #[.int .i64 a, .int .i64 b] w fun e w' => e = .returned (.int .i64 (Int.gcd a b : Int)) ∧ ∃ n, w' = w.drewN n := by
  go_enter Try.func52, Try.ntmps52
  go_wp2
  go_loopw [0, 1] (fun x y wr => ∃ a' b' : Int, (-1000000000 ≤ a' ∧ a' ≤ 1000000000) ∧ (-1000000000 ≤ b' ∧ b' ≤ 1000000000) ∧ x = .int .i64 a' ∧ y = .int .i64 b' ∧ Hid (Int.gcd a' b' = Int.gcd a b) ∧ ∃ d, wr = w.drewN d) (fun _ y _ => (intOf y).natAbs)
  case atStart => exact ⟨a, b, ha, hb, rfl, rfl, hide rfl, 0, rfl⟩
  case round =>
    obtain ⟨a', b', ha', hb', rfl, rfl, hg, d, rfl⟩ := hrel
    clear ha hb
    by_cases h : b' = 0
    · subst h
      have e := unhide hg
      rw [Int.gcd_zero] at e
      have E := hide e
      clear e
      by_cases hs : 0 ≤ a'
      · go_wp2
        go_ret
        exact ⟨ret_int (by rw [← unhide E]; omega), d, rfl⟩
      · go_wp2
        go_ret
        exact ⟨ret_int (by rw [← unhide E]; omega), d, rfl⟩
    · have hm := Wm.tmod_abs a' h
      have hm2 : -1000000000 ≤ a'.tmod b' ∧ a'.tmod b' ≤ 1000000000 := by omega
      have e := hide ((Wm.gcd_tmod a' b').trans (unhide hg))
      go_wp2
      go_quiet (fail)
      go_wp2
      go_roundw
      case rel => exact ⟨b', a'.tmod b', hb', hm2, rfl, rfl, e, _, World.drewN_drewN _ _ _⟩
      case measure => simpa [intOf] using hm

set_option maxHeartbeats 400000 in
theorem Gcd_ok (a b : Int) (w : World) (ha : -1000000000 ≤ a ∧ a ≤ 1000000000) (hb : -1000000000 ≤ b ∧ b ≤ 1000000000) :
    Calls Try.prog 46 #[.int .i64 a, .int .i64 b] w fun e w' => e = .returned (.tuple #[.int .i64 (Int.gcd a b : Int), .int .i64 0]) ∧ ∃ n, w' = w.drewN n := by
  go_enter Try.func46, Try.ntmps46
  go_wp2_with fail
  refine (in_yes a _ ha.1 ha.2).mono ?_
  rintro e w' ⟨rfl, rfl⟩
  go_wp2_with fail
  refine (in_yes b _ hb.1 hb.2).mono ?_
  rintro e w' ⟨rfl, rfl⟩
  go_wp2_with fail
  refine (gcd_any a b _ ha hb).mono ?_
  rintro e w' ⟨rfl, n, rfl⟩
  go_wp2
  go_ret2
  exact ⟨rfl, n, rfl⟩

set_option maxHeartbeats 400000 in
theorem Gcd_bad (a b : Int) (w : World) (h : ¬ ((-1000000000 ≤ a ∧ a ≤ 1000000000) ∧ (-1000000000 ≤ b ∧ b ≤ 1000000000))) :
    Calls Try.prog 46 #[.int .i64 a, .int .i64 b] w fun e w' => e = .returned (.tuple #[.int .i64 0, .int .i64 1]) ∧ w' = w := by
  by_cases ha : -1000000000 ≤ a ∧ a ≤ 1000000000
  · have hb : ¬ (-1000000000 ≤ b ∧ b ≤ 1000000000) := fun hb => h ⟨ha, hb⟩
    have c1 := hide (fun w : World => in_yes a w ha.1 ha.2)
    have c2 := hide (fun w : World => in_no b w hb)
    clear h ha hb
    go_enter Try.func46, Try.ntmps46
    go_wp2_with fail
    refine (unhide c1 _).mono ?_
    rintro e w' ⟨rfl, rfl⟩
    go_wp2_with fail
    refine (unhide c2 _).mono ?_
    rintro e w' ⟨rfl, rfl⟩
    go_wp2
    go_ret2
    exact ⟨rfl, rfl⟩
  · have c1 := hide (fun w : World => in_no a w ha)
    clear h ha
    go_enter Try.func46, Try.ntmps46
    go_wp2_with fail
    refine (unhide c1 _).mono ?_
    rintro e w' ⟨rfl, rfl⟩
    go_wp2
    go_ret2
    exact ⟨rfl, rfl⟩

end Go.Proofs.Ytahchidghfeofaa

/-
  The contracts of Within, small, good and their kin: remainders, and whether a list of errors is all right.
-/
import Derived.Test.YtlfpmmgfgmeilaaBase
import Derived.Test.YtlfpmmgfgmeilaaArith0
set_option linter.unusedVariables false
set_option linter.unusedSimpArgs false
namespace Go.Proofs.Ytlfpmmgfgmeilaa
open Go.RowKit

theorem rest_any (k n : Int) (w : World) (hn : 1 ≤ n) (hn2 : n ≤ 4611686018427387904) :
    Calls Try.prog 12 #[.int .i64 k, .int .i64 n] w fun e w' => e = .returned (.int .i64 (k % n)) ∧ w' = w := by
  have hb := Wm.tmod_bound k (show 0 < n by omega)
  by_cases h : k.tmod n < 0
  · have H := hide (Wm.emod_of_tmod_neg (show 0 < n by omega) h)
    go_enter Try.func12, Try.ntmps12
    go_wp2
    all_goals
      go_ret
      exact ⟨ret_int (by rw [← unhide H]), rfl⟩
  · have H := hide (Wm.emod_of_tmod_pos (show 0 < n by omega) h)
    go_enter Try.func12, Try.ntmps12
    go_wp2
    all_goals
      go_ret
      exact ⟨ret_int (by rw [← unhide H]), rfl⟩

theorem within_any (k n : Int) (w : World) (hn : 1 ≤ n) (hn2 : n ≤ 4611686018427387904) :
    Calls Try.prog 6 #[.int .i64 k, .int .i64 n] w fun e w' => e = .returned (.int .i64 (k % n)) ∧ w' = w := by
  go_enter Try.func6, Try.ntmps6
  go_wp2_with fail
  refine (rest_any k n w hn hn2).mono ?_
  rintro e w' ⟨rfl, rfl⟩
  go_wp2
  go_ret
  exact ⟨rfl, rfl⟩

theorem within_ex (k n : Int) (hn : 1 ≤ n) (hn2 : n ≤ 4611686018427387904) : ∃ r : Int, 0 ≤ r ∧ r < n ∧ Hid (r = k % n) ∧
    Hid (∀ w : World, Calls Try.prog 6 #[.int .i64 k, .int .i64 n] w fun e w' => e = .returned (.int .i64 r) ∧ w' = w) :=
  ⟨k % n, (Wm.emod_bound k (by omega)).1, (Wm.emod_bound k (by omega)).2, hide rfl, hide fun w => within_any k n w hn hn2⟩



end Go.Proofs.Ytlfpmmgfgmeilaa

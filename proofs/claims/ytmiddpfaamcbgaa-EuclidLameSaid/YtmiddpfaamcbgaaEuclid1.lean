/-
  The contracts of the functions of package euclid.
-/
import Derived.Test.YtmiddpfaamcbgaaBase
import Derived.Test.YtmiddpfaamcbgaaEuclid0
namespace Go.Proofs.Ytmiddpfaamcbgaa
open Go.RowKit

set_option maxHeartbeats 400000 in
theorem steps_ok (a b : Nat) (w : World) (ha : a ≤ 1000000000) (hb : b ≤ 1000000000) :
    Calls Try.prog 15 #[.int .i64 (a : Int), .int .i64 (b : Int)] w fun e w' => e = .returned (.tuple #[.int .i64 (Wm.nsteps a b : Int), .int .i64 0]) ∧ ∃ n, w' = w.drewN n := by
  go_enter Try.func15, Try.ntmps15
  go_wp2
  go_loopw [0, 1, 6] (fun x y k wr => ∃ a' b' n : Nat, a' ≤ 1000000000 ∧ b' ≤ 1000000000 ∧ x = .int .i64 a' ∧ y = .int .i64 b' ∧ k = .int .i64 n ∧ Hid (n + Wm.nsteps a' b' = Wm.nsteps a b) ∧ n ≤ 1000000000 ∧ ∃ d, wr = w.drewN d) (fun _ y _ _ => (intOf y).toNat)
  case atStart => exact ⟨a, b, 0, ha, hb, rfl, rfl, rfl, hide (by omega), by omega, 0, rfl⟩
  case round =>
    obtain ⟨a', b', n, ha', hb', rfl, rfl, rfl, hn, hn9, d, rfl⟩ := hrel
    by_cases h : b' = 0
    · subst h
      go_wp2
      go_ret2
      have := unhide hn
      rw [Wm.nsteps_zero] at this
      exact ⟨by rw [← this]; rfl, d, rfl⟩
    · have hp : 0 < b' := by omega
      have hm := Nat.mod_lt a' hp
      go_wp2
      go_quiet (fail)
      go_wp2
      have e := unhide hn
      rw [Wm.nsteps_pos a' b' hp] at e
      have := Wm.nsteps_le a b
      go_roundw
      case rel => exact ⟨b', a' % b', n + 1, hb', by omega, rfl, by go_num, by go_num, hide (by omega), by omega, _, rfl⟩
      case measure => simp [intOf]; omega

set_option maxHeartbeats 400000 in
theorem steps_bad (a b : Int) (w : World) (h : a < 0 ∨ b < 0 ∨ 1000000000 < a ∨ 1000000000 < b) :
    Calls Try.prog 15 #[.int .i64 a, .int .i64 b] w fun e w' => e = .returned (.tuple #[.int .i64 0, .int .i64 1]) ∧ w' = w := by
  by_cases h1 : a < 0
  · go_enter Try.func15, Try.ntmps15
    go_wp2
    go_ret2
    exact ⟨rfl, rfl⟩
  · by_cases h2 : b < 0
    · go_enter Try.func15, Try.ntmps15
      go_wp2
      go_ret2
      exact ⟨rfl, rfl⟩
    · by_cases h3 : 1000000000 < a
      · go_enter Try.func15, Try.ntmps15
        go_wp2
        go_ret2
        exact ⟨rfl, rfl⟩
      · have h4 : 1000000000 < b := by omega
        go_enter Try.func15, Try.ntmps15
        go_wp2
        go_ret2
        exact ⟨rfl, rfl⟩
end Go.Proofs.Ytmiddpfaamcbgaa

/-
  The walk of the law EuclidLame.
-/
import Derived.Test.YtmiddpfaamcbgaaEuclid1
namespace Go.Proofs.Ytmiddpfaamcbgaa
open Go.RowKit

theorem steps85 : Wm.nsteps 8 5 = 4 := by simp [Wm.nsteps]

set_option maxHeartbeats 400000 in
theorem lame_ok (a b : Nat) (w : World) (ha : a ≤ 1000000000) (hb : b ≤ 1000000000) :
    Calls Try.prog 3 #[.int .i64 (a : Int), .int .i64 (b : Int)] w fun e w' => e = .returned (.bool true) ∧ Ext w w' := by
  have c1 := hide (fun w : World => steps_ok 8 5 w (by omega) (by omega))
  have hle := Wm.nsteps_le a b
  by_cases hn : Wm.nsteps a b = 0
  · have hb0 : b = 0 := by
      rcases Nat.eq_zero_or_pos b with h | h
      · exact h
      · rw [Wm.nsteps_pos a b h] at hn; omega
    subst hb0
    clear hn
    have h0 := hide (Wm.nsteps_zero a)
    go_enter Try.func3, Try.ntmps3
    go_wp2_with fail
    refine (unhide c1 w).mono ?_
    rintro e w' ⟨rfl, n, rfl⟩
    rw [steps85]
    go_wp2_with fail
    refine (steps_ok a 0 _ ha hb).mono ?_
    rintro e w' ⟨rfl, m, rfl⟩
    rw [unhide h0]
    go_wp2_with fail
    go_ret
    exact ⟨rfl, (Ext.refl _).drewN _⟩
  · have hl := Wm.lame' (n := Wm.nsteps a b) rfl (by omega)
    generalize hm : Wm.nsteps a b = m at *
    have Hm := hide hm
    clear hm
    go_enter Try.func3, Try.ntmps3
    go_wp2_with fail
    refine (unhide c1 w).mono ?_
    rintro e w' ⟨rfl, n, rfl⟩
    rw [steps85]
    go_wp2_with fail
    refine (steps_ok a b _ ha hb).mono ?_
    rintro e w' ⟨rfl, m', rfl⟩
    rw [unhide Hm]
    go_wp2_with fail
    have hmono := hide (fun k h => Wm.fibs_mono k (m - 1) h)
    have hpos := hide Wm.fibs_pos
    obtain ⟨hl1, hl2⟩ := hl
    have HL := hide hl2
    clear hl2
    go_loop [9, 10, 45] (fun x y i => ∃ k : Nat, k ≤ m - 1 ∧ i = .int .i64 k ∧ x = .int .i64 (Wm.fibs k).1 ∧ y = .int .i64 (Wm.fibs k).2) (fun _ _ i => m - (intOf i).toNat)
    case atStart => exact ⟨0, by omega, rfl, rfl, rfl⟩
    case round =>
      obtain ⟨k, hk, rfl, rfl, rfl⟩ := hrel
      have h1 := unhide hmono k hk
      have h2 := unhide hpos k
      by_cases hlt : k < m - 1
      · go_wp2
        go_round
        case rel => exact ⟨k + 1, by omega, by go_num, rfl, by simp only [Wm.fibs]; go_num⟩
        case measure => simp [intOf]; omega
      · obtain rfl : k = m - 1 := by omega
        have hl2 := unhide HL
        rcases hl2 with h3 | h3
        · go_wp2
          go_ret
          exact ⟨rfl, (Ext.refl _).drewN _⟩
        · by_cases h4 : a ≤ b
          · go_wp2
            go_ret
            exact ⟨rfl, (Ext.refl _).drewN _⟩
          · go_wp2
            go_ret
            exact ⟨ret_bool (decide_eq_true (by omega)), (Ext.refl _).drewN _⟩

set_option maxHeartbeats 400000 in
theorem lame_bad (a b : Int) (w : World) (h : a < 0 ∨ b < 0 ∨ 1000000000 < a ∨ 1000000000 < b) :
    Calls Try.prog 3 #[.int .i64 a, .int .i64 b] w fun e w' => e = .returned (.bool true) ∧ Ext w w' := by
  have c1 := hide (fun w : World => steps_ok 8 5 w (by omega) (by omega))
  have c2 := hide (fun w : World => steps_bad a b w h)
  clear h
  go_enter Try.func3, Try.ntmps3
  go_wp2_with fail
  refine (unhide c1 w).mono ?_
  rintro e w' ⟨rfl, n, rfl⟩
  rw [steps85]
  go_wp2_with fail
  refine (unhide c2 _).mono ?_
  rintro e w' ⟨rfl, rfl⟩
  go_wp2_with fail
  go_ret
  exact ⟨rfl, (Ext.refl _).drewN _⟩

theorem lame_any (a b : Int) (w : World) :
    Calls Try.prog 3 #[.int .i64 a, .int .i64 b] w fun e w' => e = .returned (.bool true) ∧ Ext w w' := by
  by_cases h : a < 0 ∨ b < 0 ∨ 1000000000 < a ∨ 1000000000 < b
  · exact lame_bad a b w h
  · obtain ⟨x, rfl⟩ := Int.eq_ofNat_of_zero_le (show 0 ≤ a by omega)
    obtain ⟨y, rfl⟩ := Int.eq_ofNat_of_zero_le (show 0 ≤ b by omega)
    exact lame_ok x y w (by omega) (by omega)

end Go.Proofs.Ytmiddpfaamcbgaa

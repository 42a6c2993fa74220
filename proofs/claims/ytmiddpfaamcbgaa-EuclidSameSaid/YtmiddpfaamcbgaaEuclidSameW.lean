/-
  The walk of the law EuclidSame.
-/
import Derived.Test.YtmiddpfaamcbgaaEuclidDividesW
namespace Go.Proofs.Ytmiddpfaamcbgaa
open Go.RowKit

set_option maxHeartbeats 400000 in
theorem same_bad (a b k : Int) (w : World) (h : ¬ ((-1000000000 ≤ a ∧ a ≤ 1000000000) ∧ (-1000000000 ≤ b ∧ b ≤ 1000000000))) :
    Calls Try.prog 5 #[.int .i64 a, .int .i64 b, .int .i64 k] w fun e w' => e = .returned (.bool true) ∧ Ext w w' := by
  have c1 := hide (fun w : World => Gcd_bad a b w h)
  have c2 := hide (fun w : World => Gcd_bad b a w (fun h' => h h'.symm))
  obtain ⟨K, k0, k1, cK⟩ := small_ex k
  clear h
  go_enter Try.func5, Try.ntmps5
  go_wp2_with fail
  refine (gcds_any _).mono ?_
  rintro e w' ⟨rfl, n, rfl⟩
  go_wp2_with fail
  refine (unhide c1 _).mono ?_
  rintro e w' ⟨rfl, rfl⟩
  go_wp2_with fail
  refine (unhide c2 _).mono ?_
  rintro e w' ⟨rfl, rfl⟩
  go_wp2_with fail
  refine (unhide cK _).mono ?_
  rintro e w' ⟨rfl, rfl⟩
  go_wp2
  go_ret
  exact ⟨rfl, (Ext.refl _).drewN _⟩

set_option maxHeartbeats 1000000 in
theorem same_ok (a b k : Int) (w : World) (ha : -1000000000 ≤ a ∧ a ≤ 1000000000) (hb : -1000000000 ≤ b ∧ b ≤ 1000000000) :
    Calls Try.prog 5 #[.int .i64 a, .int .i64 b, .int .i64 k] w fun e w' => e = .returned (.bool true) ∧ Ext w w' := by
  have c1 := hide (fun w : World => Gcd_ok a b w ha hb)
  have c2 := fun w : World => Gcd_ok b a w hb ha
  have c3 := fun w : World => Gcd_ok (-a) b w (by omega) hb
  rw [Int.gcd_comm b a] at c2
  rw [Int.neg_gcd] at c3
  have C2 := hide c2
  have C3 := hide c3
  clear c2 c3
  obtain ⟨K, k0, k1, cK⟩ := small_ex k
  have b1 := Wm.mul_bound K b 1000 1000000000 (by omega) (by omega)
  by_cases hc : -1000000000 ≤ a + K * b ∧ a + K * b ≤ 1000000000
  · have c4 := fun w : World => Gcd_ok (a + K * b) b w hc hb
    rw [Int.gcd_add_mul_right_left] at c4
    have C4 := hide c4
    clear c4
    generalize Int.gcd a b = g at *
    obtain ⟨hc1, hc2⟩ := hc
    go_enter Try.func5, Try.ntmps5
    go_wp2_with fail
    refine (gcds_any _).mono ?_
    rintro e w' ⟨rfl, n, rfl⟩
    go_wp2_with fail
    refine (unhide c1 _).mono ?_
    rintro e w' ⟨rfl, m, rfl⟩
    go_wp2_with fail
    refine (unhide C2 _).mono ?_
    rintro e w' ⟨rfl, m2, rfl⟩
    go_wp2_with fail
    refine (unhide cK _).mono ?_
    rintro e w' ⟨rfl, rfl⟩
    go_wp2_with fail
    refine (unhide C4 _).mono ?_
    rintro e w' ⟨rfl, m4, rfl⟩
    go_wp2_with fail
    refine (unhide C3 _).mono ?_
    rintro e w' ⟨rfl, m3, rfl⟩
    go_wp2_with fail
    refine (good_made [0, 0] _ _ _ _ rfl rfl (by decide)).mono ?_
    rintro e w' ⟨rfl, rfl⟩
    go_wp2
    go_ret
    exact ⟨rfl, ((Ext.refl _).drewN _).alloc _⟩
  · have C4 := hide (fun w : World => Gcd_bad (a + K * b) b w (fun h => hc h.1))
    generalize Int.gcd a b = g at *
    by_cases hc1 : -1000000000 ≤ a + K * b
    · have hc2 : ¬ (a + K * b ≤ 1000000000) := fun h => hc ⟨hc1, h⟩
      clear hc
      go_enter Try.func5, Try.ntmps5
      go_wp2_with fail
      refine (gcds_any _).mono ?_
      rintro e w' ⟨rfl, n, rfl⟩
      go_wp2_with fail
      refine (unhide c1 _).mono ?_
      rintro e w' ⟨rfl, m, rfl⟩
      go_wp2_with fail
      refine (unhide C2 _).mono ?_
      rintro e w' ⟨rfl, m2, rfl⟩
      go_wp2_with fail
      refine (unhide cK _).mono ?_
      rintro e w' ⟨rfl, rfl⟩
      go_wp2_with fail
      refine (unhide C4 _).mono ?_
      rintro e w' ⟨rfl, rfl⟩
      go_wp2_with fail
      refine (unhide C3 _).mono ?_
      rintro e w' ⟨rfl, m3, rfl⟩
      go_wp2_with fail
      refine (good_made [0, 0] _ _ _ _ rfl rfl (by decide)).mono ?_
      rintro e w' ⟨rfl, rfl⟩
      go_wp2
      go_ret
      exact ⟨ret_bool (by simp [hc2]), ((Ext.refl _).drewN _).alloc _⟩
    · clear hc
      go_enter Try.func5, Try.ntmps5
      go_wp2_with fail
      refine (gcds_any _).mono ?_
      rintro e w' ⟨rfl, n, rfl⟩
      go_wp2_with fail
      refine (unhide c1 _).mono ?_
      rintro e w' ⟨rfl, m, rfl⟩
      go_wp2_with fail
      refine (unhide C2 _).mono ?_
      rintro e w' ⟨rfl, m2, rfl⟩
      go_wp2_with fail
      refine (unhide cK _).mono ?_
      rintro e w' ⟨rfl, rfl⟩
      go_wp2_with fail
      refine (unhide C4 _).mono ?_
      rintro e w' ⟨rfl, rfl⟩
      go_wp2_with fail
      refine (unhide C3 _).mono ?_
      rintro e w' ⟨rfl, m3, rfl⟩
      go_wp2_with fail
      refine (good_made [0, 0] _ _ _ _ rfl rfl (by decide)).mono ?_
      rintro e w' ⟨rfl, rfl⟩
      go_wp2
      go_ret
      exact ⟨rfl, ((Ext.refl _).drewN _).alloc _⟩

theorem same_any (a b k : Int) (w : World) :
    Calls Try.prog 5 #[.int .i64 a, .int .i64 b, .int .i64 k] w fun e w' => e = .returned (.bool true) ∧ Ext w w' := by
  by_cases h : ((-1000000000 ≤ a ∧ a ≤ 1000000000) ∧ (-1000000000 ≤ b ∧ b ≤ 1000000000))
  · exact same_ok a b k w h.1 h.2
  · exact same_bad a b k w h

end Go.Proofs.Ytmiddpfaamcbgaa

/-
  The walk of the law EuclidDivides.
-/
import Derived.Test.YtmiddpfaamcbgaaEuclid1
import Derived.Test.YtmiddpfaamcbgaaArith1
namespace Go.Proofs.Ytmiddpfaamcbgaa
open Go.RowKit

theorem gcds_any (w : World) : Calls Try.prog 16 #[] w fun e w' => e = .returned (.bool true) ∧ ∃ n, w' = w.drewN n := by
  have c1 := hide (fun w : World => Gcd_ok 12 18 w (by omega) (by omega))
  have e1 : Int.gcd 12 18 = 6 := by decide
  rw [e1] at c1
  clear e1
  go_enter Try.func16, Try.ntmps16
  go_wp2_with fail
  refine (unhide c1 _).mono ?_
  rintro e w' ⟨rfl, n, rfl⟩
  go_wp2
  go_ret
  exact ⟨rfl, n, rfl⟩

set_option maxHeartbeats 400000 in
theorem divides_bad (a b d x y : Int) (w : World) (h : ¬ ((-1000000000 ≤ a ∧ a ≤ 1000000000) ∧ (-1000000000 ≤ b ∧ b ≤ 1000000000))) :
    Calls Try.prog 4 #[.int .i64 a, .int .i64 b, .int .i64 d, .int .i64 x, .int .i64 y] w fun e w' => e = .returned (.bool true) ∧ Ext w w' := by
  have c1 := hide (fun w : World => Gcd_bad a b w h)
  clear h
  go_enter Try.func4, Try.ntmps4
  go_wp2_with fail
  refine (gcds_any _).mono ?_
  rintro e w' ⟨rfl, n, rfl⟩
  go_wp2_with fail
  refine (unhide c1 _).mono ?_
  rintro e w' ⟨rfl, rfl⟩
  go_wp2
  go_ret
  exact ⟨rfl, (Ext.refl _).drewN _⟩

set_option maxHeartbeats 400000 in
theorem divides_zero (d x y : Int) (w : World) :
    Calls Try.prog 4 #[.int .i64 0, .int .i64 0, .int .i64 d, .int .i64 x, .int .i64 y] w fun e w' => e = .returned (.bool true) ∧ Ext w w' := by
  have c1 := hide (fun w : World => Gcd_ok 0 0 w (by omega) (by omega))
  have e1 : Int.gcd 0 0 = 0 := by decide
  rw [e1] at c1
  clear e1
  go_enter Try.func4, Try.ntmps4
  go_wp2_with fail
  refine (gcds_any _).mono ?_
  rintro e w' ⟨rfl, n, rfl⟩
  go_wp2_with fail
  refine (unhide c1 _).mono ?_
  rintro e w' ⟨rfl, m, rfl⟩
  go_wp2
  go_ret
  exact ⟨rfl, (Ext.refl _).drewN _⟩

set_option maxHeartbeats 1000000 in
theorem divides_ok (a b d x y : Int) (w : World) (ha : -1000000000 ≤ a ∧ a ≤ 1000000000) (hb : -1000000000 ≤ b ∧ b ≤ 1000000000) (h0 : ¬ (a = 0 ∧ b = 0)) :
    Calls Try.prog 4 #[.int .i64 a, .int .i64 b, .int .i64 d, .int .i64 x, .int .i64 y] w fun e w' => e = .returned (.bool true) ∧ Ext w w' := by
  have c1 := hide (fun w : World => Gcd_ok a b w ha hb)
  obtain ⟨D, d0, d1, -, cD⟩ := within_ex d 1000 (by omega) (by omega)
  obtain ⟨X, x0, x1, cX⟩ := small_ex x
  obtain ⟨Y, y0, y1, cY⟩ := small_ex y
  have hg : 0 < Int.gcd a b := by
    rw [Int.gcd_pos_iff]; omega
  have g1 : a.tmod (Int.gcd a b) = 0 := Wm.tmod_eq_zero_of_dvd (Int.gcd_dvd_left a b)
  have g2 : b.tmod (Int.gcd a b) = 0 := Wm.tmod_eq_zero_of_dvd (Int.gcd_dvd_right a b)
  have g3 : (X * a + Y * b).tmod (Int.gcd a b) = 0 := Wm.tmod_eq_zero_of_dvd
    (Int.dvd_add (Int.dvd_mul_of_dvd_right (Int.gcd_dvd_left a b)) (Int.dvd_mul_of_dvd_right (Int.gcd_dvd_right a b)))
  have g4 : a.tmod (1 + D) = 0 → b.tmod (1 + D) = 0 → (Int.gcd a b : Int).tmod (1 + D) = 0 := fun h1 h2 =>
    Wm.tmod_eq_zero_of_dvd (Int.dvd_coe_gcd (Int.dvd_of_tmod_eq_zero h1) (Int.dvd_of_tmod_eq_zero h2))
  have b1 := Wm.mul_bound X a 1000 1000000000 (by omega) (by omega)
  have b2 := Wm.mul_bound Y b 1000 1000000000 (by omega) (by omega)
  have b3 := Wm.gcd_le_bound (a := a) (b := b) (M := 1000000000) (by omega) (by omega)
  generalize Int.gcd a b = g at *
  clear h0
  by_cases h1 : a.tmod (1 + D) = 0
  · by_cases h2 : b.tmod (1 + D) = 0
    · have h3 := g4 h1 h2
      clear g4
      go_enter Try.func4, Try.ntmps4
      go_wp2_with fail
      refine (gcds_any _).mono ?_
      rintro e w' ⟨rfl, n, rfl⟩
      go_wp2_with fail
      refine (unhide c1 _).mono ?_
      rintro e w' ⟨rfl, m, rfl⟩
      go_wp2_with fail
      refine (unhide cD _).mono ?_
      rintro e w' ⟨rfl, rfl⟩
      go_wp2_with fail
      refine (unhide cX _).mono ?_
      rintro e w' ⟨rfl, rfl⟩
      go_wp2_with fail
      refine (unhide cY _).mono ?_
      rintro e w' ⟨rfl, rfl⟩
      go_wp2
      go_ret
      exact ⟨rfl, (Ext.refl _).drewN _⟩
    · clear g4
      go_enter Try.func4, Try.ntmps4
      go_wp2_with fail
      refine (gcds_any _).mono ?_
      rintro e w' ⟨rfl, n, rfl⟩
      go_wp2_with fail
      refine (unhide c1 _).mono ?_
      rintro e w' ⟨rfl, m, rfl⟩
      go_wp2_with fail
      refine (unhide cD _).mono ?_
      rintro e w' ⟨rfl, rfl⟩
      go_wp2_with fail
      refine (unhide cX _).mono ?_
      rintro e w' ⟨rfl, rfl⟩
      go_wp2_with fail
      refine (unhide cY _).mono ?_
      rintro e w' ⟨rfl, rfl⟩
      go_wp2
      go_ret
      exact ⟨rfl, (Ext.refl _).drewN _⟩
  · clear g4
    go_enter Try.func4, Try.ntmps4
    go_wp2_with fail
    refine (gcds_any _).mono ?_
    rintro e w' ⟨rfl, n, rfl⟩
    go_wp2_with fail
    refine (unhide c1 _).mono ?_
    rintro e w' ⟨rfl, m, rfl⟩
    go_wp2_with fail
    refine (unhide cD _).mono ?_
    rintro e w' ⟨rfl, rfl⟩
    go_wp2_with fail
    refine (unhide cX _).mono ?_
    rintro e w' ⟨rfl, rfl⟩
    go_wp2_with fail
    refine (unhide cY _).mono ?_
    rintro e w' ⟨rfl, rfl⟩
    go_wp2
    go_ret
    exact ⟨rfl, (Ext.refl _).drewN _⟩

theorem divides_any (a b d x y : Int) (w : World) :
    Calls Try.prog 4 #[.int .i64 a, .int .i64 b, .int .i64 d, .int .i64 x, .int .i64 y] w fun e w' => e = .returned (.bool true) ∧ Ext w w' := by
  by_cases h : ((-1000000000 ≤ a ∧ a ≤ 1000000000) ∧ (-1000000000 ≤ b ∧ b ≤ 1000000000))
  · by_cases h0 : a = 0 ∧ b = 0
    · obtain ⟨rfl, rfl⟩ := h0
      exact divides_zero d x y w
    · exact divides_ok a b d x y w h.1 h.2 h0
  · exact divides_bad a b d x y w h

end Go.Proofs.Ytmiddpfaamcbgaa

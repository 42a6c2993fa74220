/-
  The walk of the law SquareBoth.
-/
import Derived.Test.YtmiddpfaamcbgaaTwo1
import Derived.Test.YtmiddpfaamcbgaaArith1
import Derived.Test.YtmiddpfaamcbgaaRest0
namespace Go.Proofs.Ytmiddpfaamcbgaa
open Go.RowKit Go.BigFrame

theorem two3 (x y : Nat) : x * x + y * y ≠ 3 := fun h => by
  have hx : x < 2 := sq_lt (by omega)
  have hy : y < 2 := sq_lt (by omega)
  obtain rfl | rfl : x = 0 ∨ x = 1 := by omega
  all_goals (obtain rfl | rfl : y = 0 ∨ y = 1 := by omega) <;> omega
theorem two8 (x y : Nat) (h : x * x + y * y = 8) (hle : x ≤ y) : x = 2 ∧ y = 2 := by
  have hx : x < 3 := sq_lt (by omega)
  have hy : y < 3 := sq_lt (by omega)
  obtain rfl | rfl | rfl : x = 0 ∨ x = 1 ∨ x = 2 := by omega
  all_goals (obtain rfl | rfl | rfl : y = 0 ∨ y = 1 ∨ y = 2 := by omega) <;> omega

theorem Two3 (w : World) : Calls Try.prog 29 #[.int .i64 3] w fun e w' => e = .returned (.tuple #[.int .i64 0, .int .i64 0, .int .i64 4]) ∧ w' = w :=
  (Two_any 3 (by omega) w).mono fun e w' ⟨h, hw⟩ => ⟨by
    rcases h with ⟨x, y, -, h1, -⟩ | ⟨he, -⟩
    · exact absurd h1 (two3 x y)
    · exact he, hw⟩
theorem Two8 (w : World) : Calls Try.prog 29 #[.int .i64 8] w fun e w' => e = .returned (.tuple #[.int .i64 2, .int .i64 2, .int .i64 0]) ∧ w' = w :=
  (Two_any 8 (by omega) w).mono fun e w' ⟨h, hw⟩ => ⟨by
    rcases h with ⟨x, y, he, h1, h2⟩ | ⟨-, hno⟩
    · obtain ⟨rfl, rfl⟩ := two8 x y h1 h2
      exact he
    · exact absurd (by omega) (hno 2 2), hw⟩

/-- Diophantus, Brahmagupta. -/
theorem brahma (a b c d : Nat) : ∃ x y : Nat, x * x + y * y = (a * a + b * b) * (c * c + d * d) := by
  refine ⟨((a : Int) * c - b * d).natAbs, a * d + b * c, ?_⟩
  have h : ((((a : Int) * c - b * d).natAbs * ((a : Int) * c - b * d).natAbs : Nat) : Int) = ((a : Int) * c - b * d) * ((a : Int) * c - b * d) := by
    rw [← Int.natAbs_mul]
    have : 0 ≤ ((a : Int) * c - b * d) * ((a : Int) * c - b * d) := Wm.sq_nonneg _
    omega
  have h2 : (((((a : Int) * c - b * d).natAbs * ((a : Int) * c - b * d).natAbs + (a * d + b * c) * (a * d + b * c) : Nat)) : Int) = (((a * a + b * b) * (c * c + d * d) : Nat) : Int) := by
    rw [Int.natCast_add, h]
    push_cast
    simp only [Int.mul_add, Int.add_mul, Int.sub_mul, Int.mul_sub, Int.mul_assoc, Int.mul_comm, Int.mul_left_comm]
    omega
  exact_mod_cast h2

set_option maxRecDepth 100000 in
set_option maxHeartbeats 1000000 in
theorem both_any (m n : Int) (w : World) :
    Calls Try.prog 14 #[.int .i64 m, .int .i64 n] w fun e w' => e = .returned (.bool true) ∧ Ext w w' := by
  obtain ⟨M', m0, m1, -, cM⟩ := within_ex m 1000 (by omega) (by omega)
  obtain ⟨M, rfl⟩ := Int.eq_ofNat_of_zero_le m0
  obtain ⟨N', n0, n1, -, cN⟩ := within_ex n 1000 (by omega) (by omega)
  obtain ⟨N, rfl⟩ := Int.eq_ofNat_of_zero_le n0
  have hb : M * N ≤ 1000 * 1000 := Nat.mul_le_mul (by omega) (by omega)
  have hmn : ((M * N : Nat) : Int) = (M : Int) * (N : Int) := Int.natCast_mul M N
  have hmn0 : 0 ≤ (M : Int) * (N : Int) := by omega
  have hmn1 : (M : Int) * (N : Int) ≤ 1000000 := by omega
  have c3 := fun w : World => Two_any (M * N) (by omega) w
  rw [hmn] at c3
  have C1 := hide (fun w : World => Two_any M (by omega) w)
  have C2 := hide (fun w : World => Two_any N (by omega) w)
  have C3 := hide c3
  clear c3 hb
  have HMN := hide hmn
  clear hmn
  go_enter Try.func14, Try.ntmps14
  go_wp2_with fail
  refine (Two3 _).mono ?_
  rintro e w' ⟨rfl, rfl⟩
  go_wp2_with fail
  refine (Two8 _).mono ?_
  rintro e w' ⟨rfl, rfl⟩
  go_wp2_with fail
  refine (unhide cM _).mono ?_
  rintro e w' ⟨rfl, rfl⟩
  go_wp2_with fail
  refine (unhide cN _).mono ?_
  rintro e w' ⟨rfl, rfl⟩
  go_wp2_with fail
  refine (unhide C1 _).mono ?_
  rintro e w' ⟨⟨a, b, rfl, hab, -⟩ | ⟨rfl, -⟩, rfl⟩
  · have HAB := hide hab
    clear hab
    go_wp2_with fail
    refine (unhide C2 _).mono ?_
    rintro e w' ⟨⟨c, d, rfl, hcd, -⟩ | ⟨rfl, -⟩, rfl⟩
    · have HCD := hide hcd
      clear hcd
      go_wp2_with fail
      refine (unhide C3 _).mono ?_
      rintro e w' ⟨⟨x, y, rfl, hxy, hle⟩ | ⟨rfl, hno⟩, rfl⟩
      · have e1 : ((x * x : Nat) : Int) = (x : Int) * (x : Int) := Int.natCast_mul x x
        have e2 : ((y * y : Nat) : Int) = (y : Int) * (y : Int) := Int.natCast_mul y y
        have e3 := unhide HMN
        have b1 : 0 ≤ (x : Int) * (x : Int) := by omega
        have b2 : 0 ≤ (y : Int) * (y : Int) := by omega
        have b3 : (x : Int) * (x : Int) ≤ 1000000 := by omega
        have b4 : (y : Int) * (y : Int) ≤ 1000000 := by omega
        have b5 : (x : Int) * (x : Int) + (y : Int) * (y : Int) = (M : Int) * (N : Int) := by omega
        clear e1 e2 e3 hxy hle
        go_wp2
        go_ret
        exact ⟨rfl, Ext.refl _⟩
      · exfalso
        obtain ⟨x, y, h⟩ := brahma a b c d
        rw [unhide HAB, unhide HCD] at h
        exact hno x y h
    · go_wp2_with fail
      refine (unhide C3 _).mono ?_
      rintro e w' ⟨⟨x, y, rfl, -, -⟩ | ⟨rfl, -⟩, rfl⟩
      · go_wp2
        go_ret
        exact ⟨rfl, Ext.refl _⟩
      · go_wp2
        go_ret
        exact ⟨rfl, Ext.refl _⟩
  · go_wp2_with fail
    refine (unhide C2 _).mono ?_
    rintro e w' ⟨⟨c, d, rfl, -, -⟩ | ⟨rfl, -⟩, rfl⟩
    · go_wp2_with fail
      refine (unhide C3 _).mono ?_
      rintro e w' ⟨⟨x, y, rfl, -, -⟩ | ⟨rfl, -⟩, rfl⟩
      · go_wp2
        go_ret
        exact ⟨rfl, Ext.refl _⟩
      · go_wp2
        go_ret
        exact ⟨rfl, Ext.refl _⟩
    · go_wp2_with fail
      refine (unhide C3 _).mono ?_
      rintro e w' ⟨⟨x, y, rfl, -, -⟩ | ⟨rfl, -⟩, rfl⟩
      · go_wp2
        go_ret
        exact ⟨rfl, Ext.refl _⟩
      · go_wp2
        go_ret
        exact ⟨rfl, Ext.refl _⟩

end Go.Proofs.Ytmiddpfaamcbgaa

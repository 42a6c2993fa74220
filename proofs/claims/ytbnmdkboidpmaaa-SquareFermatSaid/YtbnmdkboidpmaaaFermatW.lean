/-
  The walk of the law SquareFermat.
-/
import Derived.Test.YtbnmdkboidpmaaaTwo1
import Derived.Test.YtbnmdkboidpmaaaPrime1
import Derived.Test.YtbnmdkboidpmaaaFermat0
import Derived.Test.YtbnmdkboidpmaaaArith1
namespace Go.Proofs.Ytbnmdkboidpmaaa
open Go.RowKit Go.BigFrame

def isTwo (n : Nat) (x y : Nat) : Prop := x * x + y * y = n ∧ x ≤ y

theorem two_13 {x y : Nat} (h : x * x + y * y = 13) (hxy : x ≤ y) : x = 2 ∧ y = 3 := by
  have hy : y < 4 := sq_lt (show y * y < 4 * 4 by omega)
  have hx : x < 4 := by omega
  match x, y, hx, hy with
  | 0, 0, _, _ => omega
  | 0, 1, _, _ => omega
  | 0, 2, _, _ => omega
  | 0, 3, _, _ => omega
  | 1, 1, _, _ => omega
  | 1, 2, _, _ => omega
  | 1, 3, _, _ => omega
  | 2, 2, _, _ => omega
  | 2, 3, _, _ => exact ⟨rfl, rfl⟩
  | 3, 3, _, _ => omega
  | 1, 0, _, _ => omega
  | 2, 0, _, _ => omega
  | 2, 1, _, _ => omega
  | 3, 0, _, _ => omega
  | 3, 1, _, _ => omega
  | 3, 2, _, _ => omega

set_option maxRecDepth 100000 in
set_option maxHeartbeats 2000000 in
theorem sfermat_any (n : Int) (w : World) :
    Calls Try.prog 10 #[.int .i64 n] w fun e w' => e = .returned (.bool true) ∧ Ext w w' := by
  obtain ⟨N', n0, n1, -, cN⟩ := within_ex n 900000 (by omega) (by omega)
  obtain ⟨N, rfl⟩ := Int.eq_ofNat_of_zero_le n0
  obtain ⟨p, hpn, hp6⟩ := next_exists (n := 2 + N) Wm.prime_999983 (by omega)
  have hp : Wm.Prime p := hpn.1
  have h6 : p ≤ 1000000 := by omega
  have cn := fun w : World => Next_ok (2 + N) p hpn h6 w
  rw [show ((2 + N : Nat) : Int) = 2 + (N : Int) by omega] at cn
  have CN := hide cn
  have CT := hide (fun w : World => Two_any p h6 w)
  have c13 : ∀ w : World, Calls Try.prog 29 #[.int .i64 13] w fun e w' => e = .returned (.tuple #[.int .i64 2, .int .i64 3, .int .i64 0]) ∧ w' = w := fun w =>
    (Two_any 13 (by omega) w).mono fun e w' ⟨h, hx⟩ => ⟨by
      rcases h with ⟨x, y, he, h1, h2⟩ | ⟨-, h⟩
      · obtain ⟨rfl, rfl⟩ := two_13 h1 h2
        exact he
      · exact absurd rfl (h 2 3), hx⟩
  have C13 := hide c13
  have hiff := Wm.two_squares_iff hp
  have HI := hide hiff
  have q0 : 0 ≤ (p : Int) := by omega
  clear cn c13 hpn hp hp6 hiff
  go_enter Try.func10, Try.ntmps10
  go_wp2_with fail
  refine (unhide C13 _).mono ?_
  rintro e w1 ⟨rfl, rfl⟩
  go_wp2_with fail
  refine (unhide cN _).mono ?_
  rintro e w2 ⟨rfl, rfl⟩
  go_wp2_with fail
  refine (unhide CN _).mono ?_
  rintro e w3 ⟨rfl, rfl⟩
  go_wp2_with fail
  refine (unhide CT _).mono ?_
  rintro e w4 ⟨hpost, rfl⟩
  rcases hpost with ⟨x, y, rfl, hxy, hle⟩ | ⟨rfl, hno⟩
  · have h4 := (unhide HI).1 ⟨x, y, hxy⟩
    have hm : ((p : Int) % 4 != 3) = true := by rw [bne_iff_ne]; omega
    have e1 : ((x * x : Nat) : Int) = (x : Int) * (x : Int) := Int.natCast_mul x x
    have e2 : ((y * y : Nat) : Int) = (y : Int) * (y : Int) := Int.natCast_mul y y
    have b1 : 0 ≤ (x : Int) * (x : Int) := by omega
    have b2 : 0 ≤ (y : Int) * (y : Int) := by omega
    have b3 : (x : Int) * (x : Int) + (y : Int) * (y : Int) ≤ 1000000 := by omega
    have b4 : (x : Int) * (x : Int) + (y : Int) * (y : Int) = (p : Int) := by omega
    have b5 : decide (x ≤ y) = true := decide_eq_true hle
    have b6 : (x : Int) ≤ (y : Int) := by omega
    have b7 : (x : Int) * (x : Int) ≤ 1000000 := by omega
    have b8 : (y : Int) * (y : Int) ≤ 1000000 := by omega
    clear hxy h4 e1 e2
    go_wp2
    go_ret
    exact ⟨rfl, Ext.refl _⟩
  · have h4 : ¬ p % 4 ≠ 3 := fun h => by
      obtain ⟨x, y, hxy⟩ := (unhide HI).2 h
      exact hno x y hxy
    have hm : ((p : Int) % 4 != 3) = false := by
      have : (p : Int) % 4 = 3 := by omega
      rw [this]; rfl
    clear h4 hno
    go_wp2
    go_ret
    exact ⟨rfl, Ext.refl _⟩

end Go.Proofs.Ytbnmdkboidpmaaa

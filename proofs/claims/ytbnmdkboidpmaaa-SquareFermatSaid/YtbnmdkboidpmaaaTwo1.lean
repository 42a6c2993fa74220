/-
  The contract of square.Two.
-/
import Derived.Test.YtbnmdkboidpmaaaBase
import Derived.Test.YtbnmdkboidpmaaaArith0
namespace Go.Proofs.Ytbnmdkboidpmaaa
open Go.RowKit

theorem sq_lt {a b : Nat} (h : a * a < b * b) : a < b := by
  rcases Nat.lt_or_ge a b with h' | h'
  · exact h'
  · have := Nat.mul_le_mul h' h'; omega
theorem sq_le {a b : Nat} (h : a * a ≤ b * b) : a ≤ b := by
  rcases Nat.lt_or_ge b a with h' | h'
  · have := Nat.mul_lt_mul'' h' h'; omega
  · exact h'

set_option maxRecDepth 100000 in
set_option maxHeartbeats 1000000 in
theorem Two_any (n : Nat) (hn : n ≤ 1000000) (w : World) :
    Calls Try.prog 29 #[.int .i64 n] w fun e w' => ((∃ x y : Nat, e = .returned (.tuple #[.int .i64 x, .int .i64 y, .int .i64 0]) ∧ x * x + y * y = n ∧ x ≤ y) ∨ (e = .returned (.tuple #[.int .i64 0, .int .i64 0, .int .i64 4]) ∧ ∀ x y : Nat, x * x + y * y ≠ n)) ∧ w' = w := by
  go_enter Try.func29, Try.ntmps29
  go_wp2
  go_loop [5, 6] (fun i _ => ∃ x : Nat, x ≤ 708 ∧ i = .int .i64 x ∧ Hid (∀ u v, u < x → u ≤ v → u * u + v * v ≠ n)) (fun i _ => 1000 - (intOf i).toNat)
  case atStart => exact ⟨0, by omega, rfl, hide (fun u v h => absurd h (by omega))⟩
  case round =>
    obtain ⟨x, hx, rfl, hno⟩ := hrel
    have e1 : ((x * x : Nat) : Int) = (x : Int) * (x : Int) := Int.natCast_mul x x
    have e2 : (2 * (x : Int)) * (x : Int) = 2 * ((x : Int) * (x : Int)) := Int.mul_assoc _ _ _
    have b1 : x * x ≤ 708 * 708 := Nat.mul_le_mul hx hx
    by_cases hlt : n < 2 * (x * x)
    · have hlt' : ¬ (2 * (x : Int)) * (x : Int) ≤ (n : Int) := by omega
      have hb : (2 * (x : Int)) * (x : Int) ≤ 2000000 := by omega
      have hb0 : 0 ≤ (2 * (x : Int)) * (x : Int) := by omega
      have hfin : Hid (∀ u v : Nat, u * u + v * v ≠ n) := hide (by
        have key : ∀ u v : Nat, u ≤ v → u * u + v * v ≠ n := fun u v huv he => by
          have h1 : u * u ≤ v * v := Nat.mul_le_mul huv huv
          have h2 : u < x := sq_lt (by omega)
          exact unhide hno u v h2 huv he
        intro u v he
        rcases Nat.le_total u v with h | h
        · exact key u v h he
        · exact key v u h (by omega))
      clear e1 e2 b1 hlt
      go_wp2
      go_ret3
      exact ⟨.inr ⟨rfl, unhide hfin⟩, rfl⟩
    · have hx7 : x ≤ 707 := by
        have : x * x ≤ 707 * 707 + 707 * 2 := by omega
        have : x < 708 := sq_lt (by omega)
        omega
      have hlt' : (2 * (x : Int)) * (x : Int) ≤ (n : Int) := by omega
      have hb0 : 0 ≤ (2 * (x : Int)) * (x : Int) := by omega
      have hxx0 : 0 ≤ (x : Int) * (x : Int) := by omega
      have hxx1 : (x : Int) * (x : Int) ≤ 501264 := by omega
      have E1 := hide e1
      have HLT := hide hlt
      clear e1 e2 b1 hlt
      go_wp2
      go_loop [6] (fun j => ∃ y : Nat, x ≤ y ∧ y ≤ 1001 ∧ j = .int .i64 y ∧ Hid (∀ v, x ≤ v → v < y → x * x + v * v < n)) (fun j => 2000 - (intOf j).toNat)
      case atStart => exact ⟨x, by omega, by omega, rfl, hide (fun v h1 h2 => absurd h2 (by omega))⟩
      case round =>
        obtain ⟨y, hxy, hy, rfl, hlo⟩ := hrel
        have e2 : ((y * y : Nat) : Int) = (y : Int) * (y : Int) := Int.natCast_mul y y
        have b2 : y * y ≤ 1001 * 1001 := Nat.mul_le_mul hy hy
        have hyy0 : 0 ≤ (y : Int) * (y : Int) := by omega
        have hyy1 : (y : Int) * (y : Int) ≤ 1002001 := by omega
        have e1 := unhide E1
        by_cases hc : x * x + y * y < n
        · have hc' : (x : Int) * (x : Int) + (y : Int) * (y : Int) < (n : Int) := by omega
          have hy1 : y ≤ 1000 := by
            have : y < 1001 := sq_lt (by omega)
            omega
          have hnew := hide (fun v (h1 : x ≤ v) (h2 : v < y + 1) => show x * x + v * v < n from by
            by_cases h : v < y
            · exact unhide hlo v h1 h
            · obtain rfl : v = y := by omega
              exact hc)
          clear e1 e2 b2 hc
          go_wp2
          go_round
          case rel => exact ⟨y + 1, by omega, by omega, by go_num, hnew⟩
          case measure => simp [intOf]; omega
        · have hc' : ¬ (x : Int) * (x : Int) + (y : Int) * (y : Int) < (n : Int) := by omega
          by_cases he : x * x + y * y = n
          · have he' : ((x : Int) * (x : Int) + (y : Int) * (y : Int) == (n : Int)) = true := by rw [beq_iff_eq]; omega
            have HE := hide he
            clear e1 e2 b2 hc he
            go_wp2
            go_ret3
            exact ⟨.inl ⟨x, y, rfl, unhide HE, hxy⟩, rfl⟩
          · have he' : ((x : Int) * (x : Int) + (y : Int) * (y : Int) == (n : Int)) = false := by rw [beq_eq_false_iff_ne]; omega
            have hnew := hide (fun u v (h1 : u < x + 1) (h2 : u ≤ v) => show u * u + v * v ≠ n from by
              by_cases h : u < x
              · exact unhide hno u v h h2
              · obtain rfl : u = x := by omega
                intro hev
                rcases Nat.lt_or_ge v y with h3 | h3
                · have := unhide hlo v h2 h3; omega
                · have := Nat.mul_le_mul h3 h3; omega)
            clear e1 e2 b2 hc he
            go_wp2
            go_round
            case rel => exact ⟨x + 1, by omega, by go_num, hnew⟩
            case measure => simp [intOf]; omega

end Go.Proofs.Ytbnmdkboidpmaaa

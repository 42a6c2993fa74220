/-
  The laws' helpers: rows, cells.
-/
import Derived.Test.YtekkghhihnnpjaaDoorReed4
import Derived.Test.YtekkghhihnnpjaaDoorArith1
import Derived.Test.YtekkghhihnnpjaaDoorLaw
set_option linter.unusedVariables false
set_option linter.unusedSimpArgs false
namespace Wm
/-- The cells of a row, those of a set. -/
def cellsL (bs : List Nat) (s : Nat) (x : Nat) : List (Bool × Nat) := (List.range x).map fun i => (s.testBit i, if s.testBit i then bs.getD i 0 else 0)
theorem cellsL_length (bs : List Nat) (s x : Nat) : (cellsL bs s x).length = x := by simp [cellsL]
theorem cellsL_succ (bs : List Nat) (s x : Nat) : cellsL bs s (x + 1) = cellsL bs s x ++ [(s.testBit x, if s.testBit x then bs.getD x 0 else 0)] := by simp [cellsL, List.range_succ]
theorem cellsL_get (bs : List Nat) (s : Nat) {x i : Nat} (h : i < x) : (cellsL bs s x).getD i (false, 0) = (s.testBit i, if s.testBit i then bs.getD i 0 else 0) := by
  unfold cellsL
  rw [List.getD_eq_getElem?_getD, List.getElem?_map, List.getElem?_range h]
  rfl
end Wm
namespace Go.Proofs.YtekkghhihnnpjaaDoor
open Go.RowKit Go.BigFrame

theorem put57 : Wm.putL [5, 7] 3 = [5, 7, (Wm.putL [5, 7] 3).getD 2 0] ∧ (Wm.putL [5, 7] 3).getD 2 0 ≠ 5 ∧ (Wm.putL [5, 7] 3).getD 2 0 < 256 := by decide +kernel

theorem u32_bit (s x : Nat) (hs : s < 4294967296) : bits .and .u32 ((s : Int) / 2 ^ x) 1 = (((s.testBit x).toNat : Nat) : Int) := by
  have h1 : ((s : Int) / 2 ^ x) = ((s / 2 ^ x : Nat) : Int) := by rw [Int.natCast_ediv, Int.natCast_pow]; rfl
  have h2 : s / 2 ^ x < 2 ^ 32 := Nat.lt_of_le_of_lt (Nat.div_le_self _ _) hs
  rw [h1, Nat.toNat_testBit]
  show IntKind.u32.wrap ((BitVec.ofInt 32 ((s / 2 ^ x : Nat) : Int) &&& BitVec.ofInt 32 ((1 : Nat) : Int)).toNat : Int) = _
  rw [BitVec.toNat_and, ofInt_nat 32 _ h2, ofInt_nat 32 1 (by omega), Nat.and_one_is_mod]
  exact IntWalk.u32_in _ (by omega)

end Go.Proofs.YtekkghhihnnpjaaDoor

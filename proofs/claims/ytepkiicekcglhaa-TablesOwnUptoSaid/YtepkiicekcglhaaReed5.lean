/-
  The laws' helpers: rows, cells.
-/
import Derived.Test.YtepkiicekcglhaaReed4
import Derived.Test.YtepkiicekcglhaaArith1
import Derived.Test.YtepkiicekcglhaaLaw
set_option linter.unusedVariables false
set_option linter.unusedSimpArgs false
namespace Wm
/-- The cells of a row, those of a set. -/
def cellsL (bs : List Nat) (s : Nat) (x : Nat) : List (Bool × Nat) := (List.range x).map fun i => (s.testBit i, if s.testBit i then bs.getD i 0 else 0)
theorem cellsL_length (bs : List Nat) (s x : Nat) : (cellsL bs s x).length = x := by simp [cellsL]
theorem cellsL_succ (bs : List Nat) (s x : Nat) : cellsL bs s (x + 1) = cellsL bs s x ++ [(s.testBit x, if s.testBit x then bs.getD x 0 else 0)] := by simp [cellsL, List.range_succ]
theorem cellsL_get (bs : List Nat) (s : Nat) {x i : Nat} (h : i < x) : (cellsL bs s x).getD i (false, 0) = (s.testBit i, if s.testBit i then bs.getD i 0 else 0) := by
  unfold cellsL
  rw [List.getD_eq_getElem?_getD, List.getElem?_map, List.getElem?_range h]
  rfl
end Wm
namespace Go.Proofs.Ytepkiicekcglhaa
open Go.RowKit Go.BigFrame

theorem put57 : Wm.putL [5, 7] 3 = [5, 7, (Wm.putL [5, 7] 3).getD 2 0] ∧ (Wm.putL [5, 7] 3).getD 2 0 ≠ 5 ∧ (Wm.putL [5, 7] 3).getD 2 0 < 256 := by decide +kernel

set_option maxRecDepth 100000 in
theorem rows_any (w : World) : Calls Try.prog 6 #[] w fun e w' => e = .returned (.bool true) ∧ Ext w w' := by
  obtain ⟨p1, p2, p3⟩ := put57
  obtain ⟨y, hy⟩ : ∃ y, y = (Wm.putL [5, 7] 3).getD 2 0 := ⟨_, rfl⟩
  rw [← hy] at p1 p2 p3
  have CP := hide (fun (w : World) (b : Nat) (R : Row w (some ⟨b, 0, none⟩) 2 1 (nats .u8 [5, 7])) => Put_ok (some ⟨b, 0, none⟩) 2 2 3 [5, 7] w R (Wm.B256.of (by decide)) (by omega) (by omega) (by omega))
  rw [p1] at CP
  have h1 : ((y : Int) != 5) = true := by rw [bne_iff_ne]; omega
  have hR := hide (row_new w #[.int .u8 5, .int .u8 7] 5 2 1 rfl)
  clear hy p1 p2 p3
  go_enter Try.func6, Try.ntmps6
  go_wp2_with fail
  refine (unhide CP _ _ (unhide hR)).mono ?_
  rintro e w2 ⟨⟨v, rfl, M⟩, E2⟩
  obtain ⟨B, cb, rfl, RB, -, -, -⟩ := M.open_
  obtain ⟨b, o, rfl, hb, c0⟩ := RB.nat (k := 0) (by omega)
  obtain ⟨b', o', hbo, -, c1⟩ := RB.nat (k := 1) (by omega)
  obtain ⟨b'', o'', hbo2, -, c2⟩ := RB.nat (k := 2) (by omega)
  simp only [Option.some.injEq, Addr.mk.injEq, and_true] at hbo hbo2
  obtain ⟨rfl, rfl⟩ := hbo
  obtain ⟨rfl, rfl⟩ := hbo2
  have E := ((Ext.refl w).alloc (.cells #[.int .u8 5, .int .u8 7] 5)).trans E2
  simp at c0 c1 c2
  clear RB M E2 CP hR
  go_wp2
  go_ret
  exact ⟨rfl, (by repeat (first | exact E | refine Ext.alloc ?_ _ | refine Ext.drew ?_ | refine Ext.drewN ?_ _ | (refine Ext.trans ?_ (plus_ext _ _)) | (refine Ext.setCell ?_ (by have := Ext.size E; simp; omega) _)))⟩

theorem u32_bit (s x : Nat) (hs : s < 4294967296) : bits .and .u32 ((s : Int) / 2 ^ x) 1 = (((s.testBit x).toNat : Nat) : Int) := by
  have h1 : ((s : Int) / 2 ^ x) = ((s / 2 ^ x : Nat) : Int) := by rw [Int.natCast_ediv, Int.natCast_pow]; rfl
  have h2 : s / 2 ^ x < 2 ^ 32 := Nat.lt_of_le_of_lt (Nat.div_le_self _ _) hs
  rw [h1, Nat.toNat_testBit]
  show IntKind.u32.wrap ((BitVec.ofInt 32 ((s / 2 ^ x : Nat) : Int) &&& BitVec.ofInt 32 ((1 : Nat) : Int)).toNat : Int) = _
  rw [BitVec.toNat_and, ofInt_nat 32 _ h2, ofInt_nat 32 1 (by omega), Nat.and_one_is_mod]
  exact IntWalk.u32_in _ (by omega)

end Go.Proofs.Ytepkiicekcglhaa

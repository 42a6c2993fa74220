/-
  slices.Backward over numbers: the contract of its iterator.
-/
import Derived.Test.YtdcpijodoppncaaBase
import Derived.RangeFuncNested
import Derived.RangeFuncBound
import Derived.RangeFuncCalls
import Derived.RangeFuncLeaves
import Derived.RangeFuncBox
import Derived.Shelf.Abstract
import Derived.Shelf.RegionOpen
import Derived.OwnWalkIn
import Derived.TacticsInMore
import Derived.LoopNIn
import Derived.LoopIn
set_option linter.unusedVariables false
set_option linter.unusedSimpArgs false
namespace Go.Proofs.Ytdcpijodoppncaa
open Go.RowKit Go.Shelf
attribute [local go_sem] Oper.semAt_some

/-- What has come when k rounds are over. -/
def uptoF {α : Type} (f : Nat → α) (k : Nat) : List α := (List.range k).map f
theorem uptoF_succ {α : Type} (f : Nat → α) (k : Nat) : uptoF f (k + 1) = uptoF f k ++ [f k] := by simp [uptoF, List.range_succ]
theorem uptoF_length {α : Type} (f : Nat → α) (k : Nat) : (uptoF f k).length = k := by simp [uptoF]
/-- The k-th from the end. -/
def downF (zs : List Int) (len k : Nat) : Int × Int := (((len - 1 - k : Nat) : Int), zs[len - 1 - k]?.getD 0)
/-- The iterator's own box and the slice's block keep their cells. -/
def KeepAt (Bs b : Nat) (A B : World) : Prop := ∀ a : Addr, a.block = Bs ∨ a.block = b → B.cell? a = A.cell? a
theorem KeepAt.refl (Bs b : Nat) (A : World) : KeepAt Bs b A A := fun _ _ => rfl
theorem KeepAt.trans {Bs b : Nat} {A B C : World} (h : KeepAt Bs b A B) (k : KeepAt Bs b B C) : KeepAt Bs b A C := fun a ha => (k a ha).trans (h a ha)
theorem KeepAt.of_below {Bs b n : Nat} {A B : World} (h : Below n A B) (h1 : Bs < n) (h2 : b < n) : KeepAt Bs b A B := fun a ha => h.cell (by rcases ha with e | e <;> omega)
theorem KeepAt.put {Bs b : Nat} {w : World} (h1 : Bs < w.heap.size) (h2 : b < w.heap.size) (W : World) (l : Nat) (o o' : Obj) (hl : w.heap.size ≤ l) (h : W.heap[l]? = some o) (_ : o.isCells = false) (_ : o.isWalk = false) : KeepAt Bs b W (W.putObj l o') :=
  KeepAt.of_below ((Below.refl w.heap.size W).grown (grownBy_putObj' W l o') (by have := (Array.getElem?_eq_some_iff.1 h).1; omega) (fun k e => by cases e; omega)) h1 h2
theorem KeepAt.setCell {Bs b : Nat} {A B : World} (h : KeepAt Bs b A B) {p : Addr} (h1 : p.block ≠ Bs) (h2 : p.block ≠ b) (u : Value) : KeepAt Bs b A (B.setCell p u) := fun a ha => by
  rw [World.cell?_setCell_other _ _ _ _ (fun e => by subst e; rcases ha with e | e; exact h1 e; exact h2 e)]
  exact h a ha


end Go.Proofs.Ytdcpijodoppncaa

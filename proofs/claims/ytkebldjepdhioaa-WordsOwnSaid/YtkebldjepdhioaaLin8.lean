/-
  The contracts of linear.Weights, Far and Dual.
-/
import Derived.Test.YtkebldjepdhioaaLin5
import Derived.Test.YtkebldjepdhioaaLin7
import Derived.Test.YtkebldjepdhioaaPop1
set_option linter.unusedVariables false
set_option linter.unusedSimpArgs false
namespace Wm
/-- How many words have how many ones. -/
def wcnt (L : List Nat) (i : Nat) : Nat := (L.filter fun x => decide (ones x 16 = i)).length
theorem wcnt_take {L : List Nat} {k : Nat} (h : k < L.length) (i : Nat) : wcnt (L.take (k + 1)) i = if i = ones (L.getD k 0) 16 then wcnt (L.take k) i + 1 else wcnt (L.take k) i := by
  unfold wcnt
  rw [List.take_succ_eq_append_getElem h, List.filter_append, List.length_append]
  have e : L.getD k 0 = L[k] := by simp [List.getD_eq_getElem?_getD, h]
  rw [e]
  by_cases c : i = ones L[k] 16
  · rw [if_pos c, List.filter_cons, if_pos (by simpa using c.symm)]; rfl
  · rw [if_neg c, List.filter_cons, if_neg (by simpa using fun h => c h.symm)]; rfl
theorem wcnt_le (L : List Nat) (i : Nat) : wcnt L i ≤ L.length := List.length_filter_le _ _
def wts (N : Nat) (L : List Nat) : List Nat := mkS (N + 1) (wcnt L)
end Wm
namespace Go.Proofs.Ytkebldjepdhioaa
open Go.RowKit Go.BigFrame Go.Sort

theorem i64Q : EInfo Try.prog 62 3 (.int .i64 0) 1 8 := EInfo.mk_ Try.underlying62 (by kernel_rfl) rfl (by omega)
theorem row_oth {g : Nat} {w w' : World} {A : Option Addr} {n sz : Nat} {xs : List Value} (R : Row w A n sz xs) (O : Oth g w w') (hne : ∀ b o, A = some ⟨b, o, none⟩ → b ≠ g) : Row w' A n sz xs :=
  ⟨R.1, fun hn => by
    obtain ⟨b, o, hA, hb, hc⟩ := R.2 hn
    exact ⟨b, o, hA, Nat.lt_of_lt_of_le hb O.size, fun j hj => (World.cell?_of_block (a := ⟨b, o + j, none⟩) (O.block b hb (hne b o hA))).trans (hc j hj)⟩⟩
/-- What Weights returns. -/
def WtPost (n : Int) (l : List Nat) (w w' : World) (e : Ending) : Prop :=
  (Wm.chkL n l ≠ 0 ∧ e = .returned (.tuple #[.slice none 0 0, .int .i64 (Wm.chkL n l)])) ∨
  (Wm.chkL n l = 0 ∧ ∃ v, e = .returned (.tuple #[v, .int .i64 0]) ∧ Made w' w.heap.size 3 1 v (n.toNat + 1) (nats .i64 (Wm.wts n.toNat (Wm.wl l))))
end Go.Proofs.Ytkebldjepdhioaa

/-
  What WordsOwn needs of the linear codes: what each call's answer owns.
-/
import Derived.Test.YtkebldjepdhioaaLin9
import Derived.Test.YtkebldjepdhioaaWo0
set_option linter.unusedVariables false
set_option linter.unusedSimpArgs false
namespace Go.Proofs.Ytkebldjepdhioaa
open Go.RowKit Go.BigFrame Go.Sort

/-- What Words answers. -/
def WFresh (q : Int) (L : List Nat) (w w' : World) (e : Ending) : Prop := ∃ v n xs, e = .returned (.tuple #[v, .int .i64 q]) ∧ Made w' w.heap.size 26 1 v n (nats .u16 xs) ∧ (q = 0 → xs = L)
theorem fresh_L {f : List Nat → List Nat} {n : Int} {l : List Nat} {w w' : World} {e : Ending} (h : LPost f n l w w' e) : WFresh (Wm.chkL n l) (f l) w w' e := by
  rcases h with ⟨h, rfl⟩ | ⟨h, v, rfl, M⟩
  · exact ⟨_, 0, [], rfl, Made.nil, fun e => absurd e h⟩
  · exact ⟨v, _, _, by rw [h], M, fun _ => rfl⟩
theorem WFresh.fresh {q : Int} {L : List Nat} {w w' : World} {e : Ending} (h : WFresh q L w w' e) : Fresh 26 w w' e := by
  obtain ⟨v, n, xs, he, M, -⟩ := h
  exact ⟨v, n, _, q, he, M⟩
theorem fresh_Du {n : Int} {l : List Nat} {w w' : World} {e : Ending} (h : DuPost n l w w' e) : Fresh 26 w w' e := by
  rcases h with ⟨h, rfl⟩ | ⟨h, ⟨-, rfl⟩ | ⟨-, v, rfl, M⟩⟩
  · exact ⟨_, 0, [], _, rfl, Made.nil⟩
  · exact ⟨_, 0, [], 2, rfl, Made.nil⟩
  · exact ⟨v, _, _, 0, rfl, M⟩
end Go.Proofs.Ytkebldjepdhioaa

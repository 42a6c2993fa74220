/-
  Worlds that have new blocks besides: written out as 'plus w x', so that the walk reads old cells through them; regions that draw their order whose calls make memory, walked once.
-/
import Derived.Test.YtkebldjepdhioaaBase
set_option linter.unusedVariables false
set_option linter.unusedSimpArgs false
namespace Go.Proofs.Ytkebldjepdhioaa
open Go.RowKit

/-- The world w with the blocks of x behind its own (and x's count of draws). -/
def plus (w x : World) : World := { w with heap := w.heap ++ x.heap, drawn := x.drawn }

theorem plus_size (w x : World) : (plus w x).heap.size = w.heap.size + x.heap.size := by simp [plus]
theorem plus_block (w x : World) {k : Nat} (h : k < w.heap.size) : (plus w x).heap[k]? = w.heap[k]? := by
  simp [plus, Array.getElem?_append_left h]
theorem plus_ext (w x : World) : Ext w (plus w x) := ⟨rfl, rfl, rfl, by rw [plus_size]; omega, fun k hk => plus_block w x hk⟩
theorem Ext.plus {w w' : World} (h : Ext w w') : ∃ x, w' = plus w x := by
  have h : Below w.heap.size w w' := h
  refine ⟨{ w' with heap := w'.heap.extract w.heap.size w'.heap.size }, ?_⟩
  have hh : w'.heap = w.heap ++ w'.heap.extract w.heap.size w'.heap.size := by
    apply Array.ext_getElem?
    intro k
    rcases Nat.lt_or_ge k w.heap.size with hk | hk
    · rw [Array.getElem?_append_left hk, h.block k hk]
    · rw [Array.getElem?_append_right hk, Array.getElem?_extract]
      have := h.size
      split
      · rw [show w.heap.size + (k - w.heap.size) = k by omega]
      · rw [Array.getElem?_eq_none (by omega)]
  obtain ⟨h1, h2, h3, -, -⟩ := h
  show w' = ({ heap := w.heap ++ w'.heap.extract w.heap.size w'.heap.size, tape := w.tape, drawn := w'.drawn, os := w.os, output := w.output } : World)
  rw [← hh, ← h1, ← h2, ← h3]
theorem plus_cell (w x : World) {a : Addr} (h : a.block < w.heap.size) : (plus w x).cell? a = w.cell? a := (plus_ext w x).cell h
theorem plus_frozen (w x : World) {a : Addr} (h : a.block < w.heap.size) : (plus w x).frozen? a = w.frozen? a := (plus_ext w x).frozen h
theorem plus_cell' (w x : World) {b o : Nat} (h : b < w.heap.size) : (plus w x).cell? ⟨b, o, none⟩ = w.cell? ⟨b, o, none⟩ := plus_cell w x h
theorem plus_frozen' (w x : World) {b o : Nat} (h : b < w.heap.size) : (plus w x).frozen? ⟨b, o, none⟩ = w.frozen? ⟨b, o, none⟩ := plus_frozen w x h
theorem plus_keep {w : World} {a : Addr} {v : Value} (h : w.cell? a = some v) (x : World) : (plus w x).cell? a = some v :=
  (plus_cell w x (World.block_lt_of_cell? w a (by rw [h]))).trans h
theorem plus_keep_frozen {w : World} {a : Addr} {v : Value} (h : w.cell? a = some v) (x : World) : (plus w x).frozen? a = w.frozen? a :=
  plus_frozen w x (World.block_lt_of_cell? w a (by rw [h]))
theorem Ext.keep {w w' : World} (E : Ext w w') {a : Addr} {v : Value} (h : w.cell? a = some v) : w'.cell? a = some v :=
  (E.cell (World.block_lt_of_cell? w a (by rw [h]))).trans h
theorem cell_lt {w : World} {a : Addr} {v : Value} (h : w.cell? a = some v) : a.block < w.heap.size := World.block_lt_of_cell? w a (by rw [h])

/-- A region that draws its order, whose operations only read old cells, or call what at most makes memory: one walk of the text's order serves. -/
theorem wp_region_ext {P : Program} {id : Nat} {Q : Exit → Act → World → Prop} {a : Act} {w : World} {l : List Oper} (hm : P.follows .mixedOrders = true) (hB : Region.lexB .any l.toArray = true)
    (h : wpQuiet P l.toArray (fun W => ∃ x, W = plus w x) (fun a' => ∀ w', (∃ x, w' = plus w x) → Q .normal a' w') l a) : (Code.region id l.toArray true).wp P Q a w := by
  refine wp_region_quiet (C := fun W => ∃ x, W = plus w x) hm hB (Ext.plus (Ext.drew (Ext.refl w))) ?_
  simpa using h
theorem ext_call {P : Program} {f : FuncId} {args : Array Value} {w x : World} {v : Value} (h : Calls P f args (plus w x) fun e w' => e = .returned v ∧ Ext (plus w x) w') :
    Calls P f args (plus w x) fun e w'' => e = .returned v ∧ ∃ m, w'' = plus w m :=
  h.mono fun _ _ ⟨he, hw⟩ => ⟨he, ((plus_ext w x).trans hw).plus⟩
theorem ext_call_quiet {P : Program} {f : FuncId} {args : Array Value} {w x : World} {v : Value} (h : Calls P f args (plus w x) fun e w' => e = .returned v ∧ ∃ n, w' = (plus w x).drewN n) :
    Calls P f args (plus w x) fun e w'' => e = .returned v ∧ ∃ m, w'' = plus w m :=
  ext_call (h.mono fun _ _ ⟨he, hw⟩ => ⟨he, Ext.of_drewN hw⟩)
theorem ext_call_same {P : Program} {f : FuncId} {args : Array Value} {w x : World} {v : Value} (h : Calls P f args (plus w x) fun e w' => e = .returned v ∧ w' = plus w x) :
    Calls P f args (plus w x) fun e w'' => e = .returned v ∧ ∃ m, w'' = plus w m :=
  ext_call (h.mono fun _ _ ⟨he, hw⟩ => ⟨he, by rw [hw]; exact Ext.refl _⟩)

end Go.Proofs.Ytkebldjepdhioaa

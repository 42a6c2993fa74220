/-
  Slices of strings as lists.
-/
import Derived.Test.YtkebldjepdhioaaMem
set_option linter.unusedVariables false
set_option linter.unusedSimpArgs false
namespace Go.Proofs.Ytkebldjepdhioaa
open Go.RowKit

def strs (l : List ByteArray) : List Value := l.map Value.string
theorem strs_length (l : List ByteArray) : (strs l).length = l.length := List.length_map _
theorem strs_get (l : List ByteArray) (j : Nat) (h : j < l.length) : (strs l)[j]? = some (.string (l.getD j ByteArray.empty)) := by
  unfold strs
  rw [List.getElem?_map, List.getD_eq_getElem?_getD, List.getElem?_eq_getElem h]
  rfl
theorem Row.strN {w : World} {A : Option Addr} {n : Nat} {l : List ByteArray} (h : Row w A n 1 (strs l)) : l.length = n := by have := h.1; rw [strs_length] at this; omega
theorem Row.str {w : World} {A : Option Addr} {n k : Nat} {l : List ByteArray} (h : Row w A n 1 (strs l)) (hk : k < n) : ∃ b o, A = some ⟨b, o, none⟩ ∧ b < w.heap.size ∧ w.cell? ⟨b, o + k, none⟩ = some (.string (l.getD k ByteArray.empty)) := by
  obtain ⟨b, o, hA, hb, hc⟩ := h.2 (by omega)
  exact ⟨b, o, hA, hb, (hc k (by omega)).trans (strs_get l k (by have := h.strN; omega))⟩
theorem strs_append (l m : List ByteArray) : strs l ++ strs m = strs (l ++ m) := (List.map_append ..).symm
theorem strs_one (l : List ByteArray) : ∀ u ∈ strs l, u.oneCell' = true := by
  intro u hu
  simp only [strs, List.mem_map] at hu
  obtain ⟨x, -, rfl⟩ := hu
  rfl
end Go.Proofs.Ytkebldjepdhioaa

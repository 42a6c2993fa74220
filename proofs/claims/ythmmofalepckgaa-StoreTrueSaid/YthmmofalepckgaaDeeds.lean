/-
  Deeds as cells.
-/
import Derived.Test.YthmmofalepckgaaMem
set_option linter.unusedVariables false
set_option linter.unusedSimpArgs false
namespace Go.Proofs.Ythmmofalepckgaa
open Go.RowKit

structure Dd where
  kind : Int
  key : Int
  n : Int
  s : ByteArray
def Dd.no : Dd := ⟨0, 0, 0, ByteArray.empty⟩
def Dd.v (d : Dd) : Value := .agg #[.int .i64 d.kind, .int .i64 d.key, .int .i64 d.n, .string d.s]
def dds : List Dd → List Value
  | [] => []
  | d :: l => .int .i64 d.kind :: .int .i64 d.key :: .int .i64 d.n :: .string d.s :: dds l
theorem dds_length : ∀ l : List Dd, (dds l).length = l.length * 4
  | [] => rfl
  | d :: l => by simp only [dds, List.length_cons, dds_length l]; omega
def dg (l : List Dd) (j : Nat) : Dd := l.getD j Dd.no
theorem dg_mem {l : List Dd} {j : Nat} (h : j < l.length) : dg l j ∈ l := getD_mem l _ h
theorem dds_get : ∀ (l : List Dd) (j : Nat), j < l.length → (dds l)[j * 4]? = some (.int .i64 (dg l j).kind) ∧ (dds l)[j * 4 + 1]? = some (.int .i64 (dg l j).key) ∧ (dds l)[j * 4 + 2]? = some (.int .i64 (dg l j).n) ∧ (dds l)[j * 4 + 3]? = some (.string (dg l j).s)
  | [], j, h => by simp at h
  | e :: l, 0, _ => by simp [dds, dg]
  | e :: l, j + 1, h => by
    have := dds_get l j (by simpa using h)
    rw [show (j + 1) * 4 = j * 4 + 1 + 1 + 1 + 1 by omega]
    simpa [dds, dg] using this
theorem Row.ddn {w : World} {A : Option Addr} {n : Nat} {l : List Dd} (h : Row w A n 4 (dds l)) : l.length = n := by have := h.1; rw [dds_length] at this; omega
theorem Row.dd {w : World} {A : Option Addr} {n j : Nat} {l : List Dd} (h : Row w A n 4 (dds l)) (hj : j < n) : ∃ b o, A = some ⟨b, o, none⟩ ∧ b < w.heap.size ∧
    w.cell? ⟨b, o + j * 4, none⟩ = some (.int .i64 (dg l j).kind) ∧ w.cell? ⟨b, o + j * 4 + 1, none⟩ = some (.int .i64 (dg l j).key) ∧ w.cell? ⟨b, o + j * 4 + 2, none⟩ = some (.int .i64 (dg l j).n) ∧ w.cell? ⟨b, o + j * 4 + 3, none⟩ = some (.string (dg l j).s) := by
  obtain ⟨b, o, hA, hb, hc⟩ := h.2 (by omega)
  have := dds_get l j (by rw [h.ddn]; exact hj)
  exact ⟨b, o, hA, hb, (hc (j * 4) (by omega)).trans this.1, by rw [Nat.add_assoc]; exact (hc (j * 4 + 1) (by omega)).trans this.2.1, by rw [Nat.add_assoc]; exact (hc (j * 4 + 2) (by omega)).trans this.2.2.1, by rw [Nat.add_assoc]; exact (hc (j * 4 + 3) (by omega)).trans this.2.2.2⟩
end Go.Proofs.Ythmmofalepckgaa

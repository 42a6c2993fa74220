/-
  make, of one-celled elements: what it made, as a row of zeros.
-/
import Derived.Test.YtkebldjepdhioaaApp
set_option linter.unusedVariables false
set_option linter.unusedSimpArgs false
namespace Go.Proofs.Ytkebldjepdhioaa
open Go.RowKit

theorem madeCells_one (z : Value) (n : Nat) : (madeCells #[z] n).toList = List.replicate n z := by
  unfold madeCells
  rw [Array.toList_map, Array.toList_range]
  apply List.ext_getElem (by simp)
  intro j h1 h2
  simp [Nat.mod_one]
theorem Made.make {w : World} {base e : Nat} (z : Value) (n : Nat) (hb : base ≤ w.heap.size) (hn : n ≤ 9223372036854775807) :
    Made (w.alloc (.cells (madeCells #[z] n) e)) base e 1 (.slice (some ⟨w.heap.size, 0, none⟩) n n) n (List.replicate n z) := by
  refine ⟨by simp, .inr ⟨w.heap.size, n, madeCells #[z] n, rfl, hb, by rw [← World.alloc_eq]; simp, Nat.le_refl _, by unfold maxLen; exact hn, by rw [made_size]; omega, ?_⟩⟩
  rw [madeCells_one, Nat.mul_one, List.take_of_length_le (by simp)]
theorem ints_replicate (n : Nat) (x : Int) : List.replicate n (Value.int .i64 x) = ints (List.replicate n x) := by simp [ints]
theorem nats_replicate (K : IntKind) (n : Nat) (x : Nat) : List.replicate n (Value.int K (x : Int)) = nats K (List.replicate n x) := by simp [nats]
theorem ints_set (l : List Int) (k : Nat) (x : Int) : (ints l).set k (.int .i64 x) = ints (l.set k x) := by simp [ints, List.map_set]
theorem nats_set (K : IntKind) (l : List Nat) (k : Nat) (x : Nat) : (nats K l).set k (.int K (x : Int)) = nats K (l.set k x) := by simp [nats, List.map_set]
/-- A cell of what a call made. -/
theorem Made.cell {w : World} {base e : TypeId} {g n c : Nat} {xs : List Value} (h : Made w base e 1 (.slice (some ⟨g, 0, none⟩) n c) n xs) {k : Nat} (hk : k < n) : w.cell? ⟨g, k, none⟩ = some (xs.getD k undef) := by
  rcases h.2 with ⟨h2, -⟩ | ⟨g', c', cur, h3, h4, h5, h6, h7, h8, h9⟩
  · cases h2
  · injection h3 with h3 _ h3'
    simp only [Option.some.injEq, Addr.mk.injEq, and_true] at h3
    subst h3
    have hk2 : k < cur.size := by omega
    rw [← h9, List.getD_eq_getElem?_getD, List.getElem?_take_of_lt (by omega), Array.getElem?_toList]
    simp [World.cell?, h5, hk2]
theorem Made.int {w : World} {base e : TypeId} {g n c : Nat} {l : List Int} (h : Made w base e 1 (.slice (some ⟨g, 0, none⟩) n c) n (ints l)) {k : Nat} (hk : k < n) : w.cell? ⟨g, k, none⟩ = some (.int .i64 (l.getD k 0)) := by
  have hl : l.length = n := by have := h.1; rw [ints_length] at this; omega
  rw [h.cell hk, List.getD_eq_getElem?_getD, ints_get _ _ (by omega)]; rfl
theorem Made.nat {w : World} {base e : TypeId} {g n c : Nat} {K : IntKind} {l : List Nat} (h : Made w base e 1 (.slice (some ⟨g, 0, none⟩) n c) n (nats K l)) {k : Nat} (hk : k < n) : w.cell? ⟨g, k, none⟩ = some (.int K ((l.getD k 0 : Nat) : Int)) := by
  have hl : l.length = n := by have := h.1; rw [nats_length] at this; omega
  rw [h.cell hk, List.getD_eq_getElem?_getD, nats_get _ _ _ (by omega)]; rfl

end Go.Proofs.Ytkebldjepdhioaa

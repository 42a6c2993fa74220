/-
  The opening of slices of strings, for the frames of rows.
-/
import Derived.Test.YtkebldjepdhioaaLaw
import Derived.Test.YtkebldjepdhioaaStrs
set_option linter.unusedVariables false
set_option linter.unusedSimpArgs false
namespace Go.Proofs.Ytkebldjepdhioaa
open Go.ChangeShapes Go.WideShapes Go.ChangeAt Go.RowKit

theorem open_strs {H : Type} {enc : TypeId × Value → H} {P : Program} {W : World} {t e : TypeId} {v : Value} {d : DataW H} {ps : List MemPlace} {r : Reach} {b0 : Nat} (ht : P.underlying t = some (.slice e)) (he : P.underlying e = some .string) (hc : P.cellsOf e = 1) (hby : P.bytesOf e = 16)
    (hw : ∀ es sp, d = .slice es sp → (es.length + sp.length) * P.bytesOf e ≤ reachBytes) (hval : Value.okWide P W r b0 t v) (hd : DataW.Trod enc P W 0 (fun _ => true) true t v d ps) :
    ∃ (A : Option Addr) (n c : Nat) (l : List ByteArray), v = .slice A n c ∧ SliceIn W A n c 1 16 (strs l) ∧ ∀ s ∈ l, (s.size : Int) ≤ 9223372036854775807 := by
  obtain ⟨A, n, c, C, rfl, hnc, hr, hm, hn, hi⟩ := slice_in ht hc hby hw hval hd
  have each : ∀ i, i < n → ∃ s : ByteArray, C i = [.string s] ∧ (s.size : Int) ≤ 9223372036854775807 := fun i h => by
    obtain ⟨-, -, m, x, hx⟩ := hi i h
    obtain ⟨s, hs, -, hz⟩ := DataW.trod_string he hx
    unfold maxLen at hz
    exact ⟨s, hs, by omega⟩
  have hch : ∃ f : Nat → ByteArray, ∀ i, i < n → C i = [.string (f i)] ∧ ((f i).size : Int) ≤ 9223372036854775807 := by
    refine ⟨fun i => if h : i < n then (each i h).choose else ByteArray.empty, fun i h => ?_⟩
    simp only [h, dif_pos]
    exact (each i h).choose_spec
  obtain ⟨f, hf⟩ := hch
  refine ⟨A, n, c, (List.range n).map f, rfl, cells_of (by simp [strs]) (by omega) hnc hr hm hn fun i h => ?_, fun x hx => ?_⟩
  · obtain ⟨-, ⟨a, ha, hcell⟩, -⟩ := hi i h
    refine ⟨a, ha, fun j hj => ?_⟩
    obtain rfl : j = 0 := by omega
    rw [hcell 0 (by omega), (hf i h).1]
    simp [strs, h]
  · obtain ⟨i, h, rfl⟩ := List.mem_map.1 hx
    exact (hf i (List.mem_range.1 h)).2
end Go.Proofs.Ytkebldjepdhioaa

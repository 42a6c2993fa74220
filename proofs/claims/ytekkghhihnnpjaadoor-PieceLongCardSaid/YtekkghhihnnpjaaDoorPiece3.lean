/-
  Strings as numbers, and buffers of bytes: seat-neutral (out of Pair3).
-/
import Derived.Test.YtekkghhihnnpjaaDoorPiece2
import Derived.Test.YtekkghhihnnpjaaDoorMake
import Derived.Laws.BytesArg
import Derived.Laws.IdiomStrings
set_option linter.unusedVariables false
set_option linter.unusedSimpArgs false
namespace Go.Proofs.YtekkghhihnnpjaaDoor
open Go.RowKit Go.BigFrame

/-- A string of numbers. -/
def strN (l : List Nat) : ByteArray := ⟨(l.map UInt8.ofNat).toArray⟩
theorem strN_size (l : List Nat) : (strN l).size = l.length := by simp [strN, ByteArray.size]
theorem strN_byt (l : List Nat) (h : ∀ x ∈ l, x < 256) {k : Nat} (hk : k < l.length) : sby (strN l) k = l.getD k 0 := by
  unfold sby strN
  rw [Array.getD_eq_getD_getElem?, List.getElem?_toArray, List.getElem?_map, List.getD_eq_getElem?_getD, List.getElem?_eq_getElem hk]
  simp only [Option.map_some, Option.getD_some]
  have := h _ (List.getElem_mem hk)
  rw [UInt8.toNat_ofNat']
  exact Nat.mod_eq_of_lt (by simpa using this)
theorem strN_nums (l : List Nat) : strOfNums (l.map fun (x : Nat) => (x : Int)) = strN l := by
  unfold strOfNums strN
  rw [List.map_map]
  rfl
theorem str_ext {s t : ByteArray} (h : s.size = t.size) (hb : ∀ k, k < s.size → sby s k = sby t k) : s = t := by
  cases s with | mk a =>
  cases t with | mk b =>
  congr 1
  have hs : a.size = b.size := h
  apply Array.ext hs
  intro i h1 h2
  have := hb i h1
  unfold sby at this
  simp only [Array.getD_eq_getD_getElem?, Array.getElem?_eq_getElem h1, Array.getElem?_eq_getElem h2, Option.getD_some] at this
  exact UInt8.toNat_inj.1 this

/-- A row of cells that may be written. -/
def Buf (w : World) (base g : Nat) (xs : List Value) : Prop := base ≤ g ∧ g < w.heap.size ∧ ∀ j, j < xs.length → w.cell? ⟨g, j, none⟩ = xs[j]? ∧ w.frozen? ⟨g, j, none⟩ = false
section
variable {w w' : World} {base g : Nat} {xs : List Value}
theorem Buf.keep (h : Buf w base g xs) (E : Ext w w') : Buf w' base g xs :=
  ⟨h.1, Nat.lt_of_lt_of_le h.2.1 E.size, fun j hj => ⟨(E.cell (p := ⟨g, j, none⟩) h.2.1).trans (h.2.2 j hj).1, (E.frozen (p := ⟨g, j, none⟩) h.2.1).trans (h.2.2 j hj).2⟩⟩
theorem Buf.set (h : Buf w base g xs) {k : Nat} (hk : k < xs.length) (u : Value) : Buf (w.setCell ⟨g, k, none⟩ u) base g (xs.set k u) := by
  refine ⟨h.1, by simpa using h.2.1, fun j hj => ?_⟩
  rw [List.length_set] at hj
  refine ⟨?_, by rw [World.frozen?_setCell]; exact (h.2.2 j hj).2⟩
  by_cases e : k = j
  · subst e
    rw [List.getElem?_set_self hk]
    exact World.cell?_setCell_same' _ _ _ (by rw [(h.2.2 k hk).1, List.getElem?_eq_getElem hk]; rfl)
  · rw [List.getElem?_set_ne e]
    exact (World.cell?_setCell_other _ _ _ _ (by first | (simp; exact e) | simp [e])).trans (h.2.2 j hj).1
theorem Buf.other (h : Buf w base g xs) {p : Addr} (hne : p.block ≠ g) (u : Value) : Buf (w.setCell p u) base g xs :=
  ⟨h.1, by simpa using h.2.1, fun j hj => ⟨(World.cell?_setCell_other _ _ _ _ (fun e => hne (by rw [e]))).trans (h.2.2 j hj).1, by rw [World.frozen?_setCell]; exact (h.2.2 j hj).2⟩⟩
theorem Buf.nat {K : IntKind} {l : List Nat} (h : Buf w base g (nats K l)) {k : Nat} (hk : k < l.length) : w.cell? ⟨g, k, none⟩ = some (.int K ((l.getD k 0 : Nat) : Int)) ∧ w.frozen? ⟨g, k, none⟩ = false := by
  obtain ⟨h1, h2⟩ := h.2.2 k (by rw [nats_length]; exact hk)
  exact ⟨h1.trans (nats_get K l k hk), h2⟩
/-- The string of such bytes. -/
theorem Buf.str {P : Program} {src dst e : TypeId} {l : List Nat} (hs : P.underlying src = some (.slice e)) (he : P.underlying e = some (.int .u8)) (hd : P.underlying dst = some .string) (h : Buf w base g (nats .u8 l)) (c : Nat) :
    (convert src dst (.slice (some ⟨g, 0, none⟩) l.length c)).run P w = .ok (.string (strN l)) w := by
  have := run_convert_bytes_arg w src e hs he g 0 l.length c (l.map fun (x : Nat) => (x : Int)) (by simp) (fun i hi => by
    rw [Nat.zero_add, (h.nat hi).1, List.getD_eq_getElem?_getD, List.getD_eq_getElem?_getD, List.getElem?_map, List.getElem?_eq_getElem hi]; rfl) dst hd
  rw [strN_nums] at this
  exact this
end
theorem Made.buf {w : World} {base e : TypeId} {g n c : Nat} {xs : List Value} (h : Made w base e 1 (.slice (some ⟨g, 0, none⟩) n c) n xs) : Buf w base g xs := by
  have hl : xs.length = n := by have := h.1; omega
  have hlt := h.lt g rfl
  refine ⟨hlt.1, hlt.2, fun j hj => ⟨?_, h.frozen j⟩⟩
  rw [h.cell (by omega), List.getD_eq_getElem?_getD, List.getElem?_eq_getElem hj]; rfl

/-- '[]byte(s)': what it makes. -/
theorem bytes_of (w : World) (s : ByteArray) : ∃ (c : Nat) (W : World), (convert 9 30 (.string s)).run Tryd.prog w = .ok (.slice (some ⟨w.heap.size, 0, none⟩) s.size c) W ∧ Ext w W ∧ s.size ≤ c ∧
    Buf W w.heap.size w.heap.size (nats .u8 ((List.range s.size).map fun k => sby s k)) := by
  have h := run_bytes_of_string (P := Tryd.prog) w 9 30 5 s Tryd.underlying9 Tryd.underlying30 Tryd.underlying5
  refine ⟨_, _, h, ((Ext.refl w).drew).alloc _, grownCap_ge _ _ _ _, ?_⟩
  · refine ⟨Nat.le_refl _, by simp, fun j hj => ?_⟩
    have hjs : j < s.size := by simpa [nats] using hj
    have hbs : s.size ≤ (bytesRow s (grownCap w s.size 0 5)).size := by
      unfold bytesRow
      rw [Array.size_append, Array.size_map]
      exact Nat.le_add_right _ _
    constructor
    · refine (World.cell?_alloc_mark w.drew _ _ _ j).trans ?_
      rw [nats_get .u8 _ j (by simpa using hjs)]
      unfold bytesRow
      rw [Array.getElem?_append_left (by simpa using hjs)]
      simp [sby, hjs, Array.getD_eq_getD_getElem?]
    · have hh : (w.drew.alloc (.cells (bytesRow s (grownCap w s.size 0 5)) 5 ((bytesRow s (grownCap w s.size 0 5)).size, (bytesRow s (grownCap w s.size 0 5)).size + 1))).heap[w.heap.size]? = some (.cells (bytesRow s (grownCap w s.size 0 5)) 5 ((bytesRow s (grownCap w s.size 0 5)).size, (bytesRow s (grownCap w s.size 0 5)).size + 1)) := by
        show (w.heap.push _)[w.heap.size]? = _
        simp
      unfold World.frozen?
      rw [hh]
      simp
      omega
end Go.Proofs.YtekkghhihnnpjaaDoor

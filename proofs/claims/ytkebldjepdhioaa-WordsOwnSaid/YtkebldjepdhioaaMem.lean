/-
  Slices that read as lists: 'Row w A n sz xs': the slice at A with n elements (sz cells each) holds the cells xs in the world w. How they stand over later worlds; slices that a call made; lists of numbers and of pairs as cells.
-/
import Derived.Test.YtkebldjepdhioaaPlus
import Derived.Test.YtkebldjepdhioaaRow1
import Derived.Deep.AppendLies
import Derived.Maps.AppendAt
set_option linter.unusedVariables false
set_option linter.unusedSimpArgs false
namespace Go.Proofs.Ytkebldjepdhioaa
open Go.RowKit

def Row (w : World) (A : Option Addr) (n sz : Nat) (xs : List Value) : Prop :=
  xs.length = n * sz ∧ (0 < n → ∃ b o, A = some ⟨b, o, none⟩ ∧ b < w.heap.size ∧ ∀ j, j < n * sz → w.cell? ⟨b, o + j, none⟩ = xs[j]?)

section
variable {w w' : World} {A : Option Addr} {n sz : Nat} {xs : List Value}
theorem Row.none_ : Row w A 0 sz [] := ⟨by simp, fun h => absurd h (by omega)⟩
theorem Row.empty (h : Row w A 0 sz xs) : xs = [] := List.eq_nil_of_length_eq_zero (by simpa using h.1)
theorem Row.keep (h : Row w A n sz xs) (E : Ext w w') : Row w' A n sz xs :=
  ⟨h.1, fun hn => by
    obtain ⟨b, o, hA, hb, hc⟩ := h.2 hn
    exact ⟨b, o, hA, Nat.lt_of_lt_of_le hb E.size, fun j hj => (E.cell (p := ⟨b, o + j, none⟩) hb).trans (hc j hj)⟩⟩
theorem Row.alloc (h : Row w A n sz xs) (o : Obj) : Row (w.alloc o) A n sz xs := h.keep ((Ext.refl w).alloc o)
theorem Row.drewN (h : Row w A n sz xs) (k : Nat) : Row (w.drewN k) A n sz xs := h.keep ((Ext.refl w).drewN k)
theorem Row.grown {row : Option Nat} (h : Row w A n sz xs) (hg : w.grownBy w' row) (hr : ∀ b o, A = some ⟨b, o, none⟩ → row ≠ some b) : Row w' A n sz xs :=
  ⟨h.1, fun hn => by
    obtain ⟨b, o, hA, hb, hc⟩ := h.2 hn
    exact ⟨b, o, hA, Nat.lt_of_lt_of_le hb hg.size, fun j hj => (World.cell?_of_block (a := ⟨b, o + j, none⟩) (hg.block b hb (fun e => hr b o hA e.symm))).trans (hc j hj)⟩⟩
theorem Row.take (h : Row w A n sz xs) {k : Nat} (hk : k ≤ n) : Row w A k sz (xs.take (k * sz)) := by
  have hle : k * sz ≤ n * sz := Nat.mul_le_mul_right sz hk
  refine ⟨by rw [List.length_take, h.1]; omega, fun hn => ?_⟩
  obtain ⟨b, o, hA, hb, hc⟩ := h.2 (by omega)
  exact ⟨b, o, hA, hb, fun j hj => by rw [hc j (by omega), List.getElem?_take_of_lt hj]⟩
theorem Row.drop (h : Row w A n sz xs) {k c : Nat} (hk : k ≤ n) (hc : n ≤ c) : Row w (if c = k then A else A.map (·.add (k * sz))) (n - k) sz (xs.drop (k * sz)) := by
  refine ⟨by rw [List.length_drop, h.1, Nat.sub_mul], fun hn => ?_⟩
  obtain ⟨b, o, rfl, hb, hcell⟩ := h.2 (by omega)
  rw [if_neg (by omega)]
  refine ⟨b, o + k * sz, ?_, hb, fun j hj => ?_⟩
  · simp only [Option.map_some, Option.some.injEq]
    unfold Addr.add
    split
    · rename_i h0; simp [h0]
    · rfl
  · rw [List.getElem?_drop, ← hcell (k * sz + j) (by rw [Nat.sub_mul] at hj; omega), Nat.add_assoc]
/-- What a call made is a row. -/
theorem row_of_own {base e : Nat} {v : Value} (h : w.ownsRow base e sz v n xs) : ∃ A c, v = .slice A n c ∧ Row w A n sz xs ∧ n ≤ c ∧ c ≤ maxLen ∧ (∀ b o, A = some ⟨b, o, none⟩ → base ≤ b ∧ b < w.heap.size) := by
  have hc := h
  have hl := h.lt
  obtain ⟨h1, h2⟩ := h
  rcases h2 with ⟨rfl, h2⟩ | ⟨g, cap, cur, rfl, hg, hh, hnc, hcm, r⟩
  · subst h2
    have : xs = [] := List.eq_nil_of_length_eq_zero (by simpa using h1)
    subst this
    exact ⟨none, 0, rfl, Row.none_ , Nat.le_refl _, by unfold maxLen; omega, fun b o h => by cases h⟩
  · refine ⟨some ⟨g, 0, none⟩, cap, rfl, ⟨h1, fun _ => ⟨g, 0, rfl, (hl g rfl).2, fun j hj => by rw [Nat.zero_add]; exact hc.cellAt j hj⟩⟩, hnc, hcm, fun b o h => ?_⟩
    simp only [Option.some.injEq, Addr.mk.injEq] at h
    obtain ⟨rfl, -, -⟩ := h
    exact ⟨hg, (hl g rfl).2⟩
end

/-- A slice that came in. -/
def SliceIn (w : World) (A : Option Addr) (n c sz bytes : Nat) (xs : List Value) : Prop :=
  Row w A n sz xs ∧ n ≤ c ∧ c * bytes ≤ 140737488351232 ∧ c ≤ 9223372036854775807 ∧ (A = none → n = 0 ∧ c = 0)

/-! ### Lists as cells -/
theorem ints_nil : ints [] = [] := rfl
theorem Row.num {w : World} {A : Option Addr} {n : Nat} {l : List Int} (h : Row w A n 1 (ints l)) : l.length = n := by have := h.1; rw [ints_length] at this; omega
theorem Row.int {w : World} {A : Option Addr} {n k : Nat} {l : List Int} (h : Row w A n 1 (ints l)) (hk : k < n) : ∃ b o, A = some ⟨b, o, none⟩ ∧ b < w.heap.size ∧ w.cell? ⟨b, o + k, none⟩ = some (.int .i64 (l.getD k 0)) := by
  obtain ⟨b, o, hA, hb, hc⟩ := h.2 (by omega)
  exact ⟨b, o, hA, hb, (hc k (by omega)).trans (ints_get l k (by have := h.num; omega))⟩
theorem ints_take (l : List Int) (k : Nat) : (ints l).take k = ints (l.take k) := by simp [ints, List.map_take]
theorem ints_drop (l : List Int) (k : Nat) : (ints l).drop k = ints (l.drop k) := by simp [ints, List.map_drop]

/-- Numbers of a kind, from naturals. -/
def nats (K : IntKind) (l : List Nat) : List Value := l.map fun (x : Nat) => Value.int K (x : Int)
theorem nats_length (K : IntKind) (l : List Nat) : (nats K l).length = l.length := List.length_map _
theorem nats_append (K : IntKind) (l m : List Nat) : nats K l ++ nats K m = nats K (l ++ m) := (List.map_append ..).symm
theorem nats_get (K : IntKind) (l : List Nat) (j : Nat) (h : j < l.length) : (nats K l)[j]? = some (.int K ((l.getD j 0 : Nat) : Int)) := by
  unfold nats
  rw [List.getElem?_map, List.getD_eq_getElem?_getD, List.getElem?_eq_getElem h]
  rfl
theorem nats_take (K : IntKind) (l : List Nat) (k : Nat) : (nats K l).take k = nats K (l.take k) := by simp [nats, List.map_take]
theorem nats_drop (K : IntKind) (l : List Nat) (k : Nat) : (nats K l).drop k = nats K (l.drop k) := by simp [nats, List.map_drop]
theorem Row.numN {w : World} {A : Option Addr} {n : Nat} {K : IntKind} {l : List Nat} (h : Row w A n 1 (nats K l)) : l.length = n := by have := h.1; rw [nats_length] at this; omega
theorem Row.nat {w : World} {A : Option Addr} {n k : Nat} {K : IntKind} {l : List Nat} (h : Row w A n 1 (nats K l)) (hk : k < n) : ∃ b o, A = some ⟨b, o, none⟩ ∧ b < w.heap.size ∧ w.cell? ⟨b, o + k, none⟩ = some (.int K ((l.getD k 0 : Nat) : Int)) := by
  obtain ⟨b, o, hA, hb, hc⟩ := h.2 (by omega)
  exact ⟨b, o, hA, hb, (hc k (by omega)).trans (nats_get K l k (by have := h.numN; omega))⟩

/-- Pairs of numbers: two cells each. -/
def prs : List (Int × Int) → List Value
  | [] => []
  | p :: l => .int .i64 p.1 :: .int .i64 p.2 :: prs l
theorem prs_length : ∀ l : List (Int × Int), (prs l).length = l.length * 2
  | [] => rfl
  | p :: l => by simp only [prs, List.length_cons, prs_length l]; omega
theorem prs_append : ∀ l m : List (Int × Int), prs l ++ prs m = prs (l ++ m)
  | [], _ => rfl
  | p :: l, m => by simp only [prs, List.cons_append, prs_append l m]
theorem prs_get : ∀ (l : List (Int × Int)) (k : Nat), k < l.length → (prs l)[k * 2]? = some (.int .i64 (l.getD k (0, 0)).1) ∧ (prs l)[k * 2 + 1]? = some (.int .i64 (l.getD k (0, 0)).2)
  | [], k, h => by simp at h
  | p :: l, 0, _ => by simp [prs]
  | p :: l, k + 1, h => by
    have := prs_get l k (by simpa using h)
    rw [show (k + 1) * 2 = k * 2 + 1 + 1 by omega]
    simpa [prs] using this
theorem prs_take : ∀ (l : List (Int × Int)) (k : Nat), (prs l).take (k * 2) = prs (l.take k)
  | l, 0 => by simp [prs]
  | [], k + 1 => by simp [prs]
  | p :: l, k + 1 => by
    rw [show (k + 1) * 2 = k * 2 + 1 + 1 by omega]
    simp only [prs, List.take_succ_cons, prs_take l k]
theorem Row.prn {w : World} {A : Option Addr} {n : Nat} {l : List (Int × Int)} (h : Row w A n 2 (prs l)) : l.length = n := by have := h.1; rw [prs_length] at this; omega
theorem Row.pair {w : World} {A : Option Addr} {n k : Nat} {l : List (Int × Int)} (h : Row w A n 2 (prs l)) (hk : k < n) : ∃ b o, A = some ⟨b, o, none⟩ ∧ b < w.heap.size ∧
    w.cell? ⟨b, o + k * 2, none⟩ = some (.int .i64 (l.getD k (0, 0)).1) ∧ w.cell? ⟨b, o + k * 2 + 1, none⟩ = some (.int .i64 (l.getD k (0, 0)).2) := by
  obtain ⟨b, o, hA, hb, hc⟩ := h.2 (by omega)
  have := prs_get l k (by have := h.prn; omega)
  exact ⟨b, o, hA, hb, (hc (k * 2) (by omega)).trans this.1, by rw [Nat.add_assoc]; exact (hc (k * 2 + 1) (by omega)).trans this.2⟩

theorem take_snoc {α : Type} (l : List α) (d : α) {k : Nat} (h : k < l.length) : l.take (k + 1) = l.take k ++ [l.getD k d] := by
  rw [List.take_succ_eq_append_getElem h, List.getD_eq_getElem?_getD, List.getElem?_eq_getElem h]; rfl
theorem getD_mem {α : Type} (l : List α) (d : α) {k : Nat} (h : k < l.length) : l.getD k d ∈ l := by
  rw [List.getD_eq_getElem?_getD, List.getElem?_eq_getElem h]; exact List.getElem_mem h

/-! ### What a call made, clipped or not -/
def Made (w : World) (base : Nat) (e : TypeId) (sz : Nat) (v : Value) (n : Nat) (xs : List Value) : Prop :=
  xs.length = n * sz ∧ ((v = .slice none 0 0 ∧ n = 0) ∨
    ∃ g c cur, v = .slice (some ⟨g, 0, none⟩) n c ∧ base ≤ g ∧ w.heap[g]? = some (.cells cur e (0, 0)) ∧ n ≤ c ∧ c ≤ maxLen ∧ c * sz ≤ cur.size ∧ cur.toList.take (n * sz) = xs)

section
variable {w w' : World} {base : Nat} {e : TypeId} {sz : Nat} {v : Value} {n : Nat} {xs : List Value}
theorem Made.of_own (h : w.ownsRow base e sz v n xs) : Made w base e sz v n xs := by
  obtain ⟨h1, h2⟩ := h
  refine ⟨h1, ?_⟩
  rcases h2 with h2 | ⟨g, c, cur, h3, h4, h5, h6, h7, h8, h9⟩
  · exact .inl h2
  · exact .inr ⟨g, c, cur, h3, h4, h5, h6, h7, by omega, h9⟩
theorem Made.nil : Made w base e sz (.slice none 0 0) 0 [] := ⟨by simp, .inl ⟨rfl, rfl⟩⟩
theorem Made.lt (h : Made w base e sz v n xs) : ∀ k, v.ownBlock = some k → base ≤ k ∧ k < w.heap.size := by
  intro k hk
  rcases h.2 with ⟨rfl, -⟩ | ⟨g, c, cur, rfl, hg, hh, -⟩
  · cases hk
  · simp only [Value.ownBlock, Option.some.injEq] at hk
    subst hk
    refine ⟨hg, ?_⟩
    rcases Nat.lt_or_ge g w.heap.size with h | h
    · exact h
    · rw [Array.getElem?_eq_none h] at hh; cases hh
theorem Made.keep (h : Made w base e sz v n xs) (E : Ext w w') : Made w' base e sz v n xs := by
  have hl := h.lt
  obtain ⟨h1, h2⟩ := h
  refine ⟨h1, ?_⟩
  rcases h2 with h2 | ⟨g, c, cur, rfl, hg, hh, r⟩
  · exact .inl h2
  · exact .inr ⟨g, c, cur, rfl, hg, (Below.block E g (hl g rfl).2).trans hh, r⟩
theorem Made.mono {base' : Nat} (h : Made w base e sz v n xs) (hb : base' ≤ base) : Made w base' e sz v n xs := by
  obtain ⟨h1, h2⟩ := h
  refine ⟨h1, ?_⟩
  rcases h2 with h2 | ⟨g, c, cur, hv, hg, r⟩
  · exact .inl h2
  · exact .inr ⟨g, c, cur, hv, by omega, r⟩
/-- A value that a call made is a slice; it reads as a row. -/
theorem Made.open_ (h : Made w base e sz v n xs) : ∃ A c, v = .slice A n c ∧ Row w A n sz xs ∧ n ≤ c ∧ c ≤ maxLen ∧ (∀ b o, A = some ⟨b, o, none⟩ → base ≤ b ∧ b < w.heap.size) := by
  have hl := h.lt
  obtain ⟨h1, h2⟩ := h
  rcases h2 with ⟨rfl, rfl⟩ | ⟨g, c, cur, rfl, hg, hh, hnc, hcm, hs, ht⟩
  · have : xs = [] := List.eq_nil_of_length_eq_zero (by simpa using h1)
    subst this
    exact ⟨none, 0, rfl, Row.none_, Nat.le_refl _, by unfold maxLen; omega, fun b o h => by cases h⟩
  · refine ⟨some ⟨g, 0, none⟩, c, rfl, ⟨h1, fun _ => ⟨g, 0, rfl, (hl g rfl).2, fun j hj => ?_⟩⟩, hnc, hcm, fun b o h => ?_⟩
    · rw [Nat.zero_add, ← ht, List.getElem?_take_of_lt hj, Array.getElem?_toList]
      simp [World.cell?, hh]
    · simp only [Option.some.injEq, Addr.mk.injEq] at h
      obtain ⟨rfl, -, -⟩ := h
      exact ⟨hg, (hl g rfl).2⟩
theorem Made.clip {A : Option Addr} {c : Nat} (h : Made w base e sz (.slice A n c) n xs) : Made w base e sz (.slice A n n) n xs := by
  obtain ⟨h1, h2⟩ := h
  refine ⟨h1, ?_⟩
  rcases h2 with ⟨h2, rfl⟩ | ⟨g, c', cur, h3, h4, h5, h6, h7, h8, h9⟩
  · injection h2 with h2
    subst h2
    exact .inl ⟨rfl, rfl⟩
  · injection h3 with h3 _ h3'
    subst h3; subst h3'
    exact .inr ⟨g, n, cur, rfl, h4, h5, Nat.le_refl _, by omega, Nat.le_trans (Nat.mul_le_mul_right sz h6) h8, h9⟩
/-- A cell of it: written. -/
theorem Made.set {g : Nat} {c : Nat} (h : Made w base e sz (.slice (some ⟨g, 0, none⟩) n c) n xs) {j : Nat} (hj : j < n * sz) (u : Value) :
    Made (w.setCell ⟨g, j, none⟩ u) base e sz (.slice (some ⟨g, 0, none⟩) n c) n (xs.set j u) := by
  obtain ⟨h1, h2⟩ := h
  refine ⟨by rw [List.length_set, h1], ?_⟩
  rcases h2 with ⟨h2, -⟩ | ⟨g', c', cur, h3, h4, h5, h6, h7, h8, h9⟩
  · cases h2
  · injection h3 with h3 _ h3'
    simp only [Option.some.injEq, Addr.mk.injEq, and_true] at h3
    subst h3; subst h3'
    have h8' : n * sz ≤ cur.size := Nat.le_trans (Nat.mul_le_mul_right sz h6) h8
    refine .inr ⟨g, c, cur.setIfInBounds j u, rfl, h4, ?_, h6, h7, by simpa using h8, ?_⟩
    · simp [World.setCell, Array.getElem?_modify, h5]
    · rw [Array.toList_setIfInBounds, ← h9, List.take_set]
theorem Made.frozen {g c : Nat} (h : Made w base e sz (.slice (some ⟨g, 0, none⟩) n c) n xs) (j : Nat) : w.frozen? ⟨g, j, none⟩ = false := by
  rcases h.2 with ⟨h2, -⟩ | ⟨g', c', cur, h3, h4, h5, -⟩
  · cases h2
  · injection h3 with h3
    simp only [Option.some.injEq, Addr.mk.injEq, and_true] at h3
    subst h3
    simp [World.frozen?, h5]
end

theorem prs_set : ∀ (l : List (Int × Int)) (k : Nat) (p : Int × Int), prs (l.set k p) = ((prs l).set (k * 2) (.int .i64 p.1)).set (k * 2 + 1) (.int .i64 p.2)
  | [], k, p => by simp [prs]
  | q :: l, 0, p => by simp [prs]
  | q :: l, k + 1, p => by
    rw [show (k + 1) * 2 = k * 2 + 1 + 1 by omega]
    simp [prs, prs_set l k p]

/-- The first k of l and the last k, exchanged. -/
def Revd {α : Type} [Inhabited α] (l m : List α) (n k : Nat) : Prop := l.length = n ∧ m.length = n ∧ ∀ t (d : α), t < n → m.getD t d = if t < k ∨ n ≤ t + k then l.getD (n - 1 - t) d else l.getD t d
theorem Revd.start {α : Type} [Inhabited α] {l : List α} {n : Nat} (h : l.length = n) : Revd l l n 0 := ⟨h, h, fun t d ht => by rw [if_neg (by omega)]⟩
theorem Revd.step {α : Type} [Inhabited α] {l m : List α} {n k j : Nat} (h : Revd l m n k) (hj : j + k + 1 = n) (hlt : k < j) (d : α := default) : Revd l ((m.set k (m.getD j d)).set j (m.getD k d)) n (k + 1) := by
  obtain ⟨h1, h2, h3⟩ := h
  refine ⟨h1, by simp [h2], fun t e ht => ?_⟩
  have e1 : ∀ i (x : α), i < n → (m.getD i x) = m.getD i e := fun i x hi => by simp [List.getD_eq_getElem?_getD, List.getElem?_eq_getElem (show i < m.length by omega)]
  have gs : ∀ (q : List α) (i : Nat) (x : α), i < q.length → (q.set i x).getD t e = if i = t then x else q.getD t e := fun q i x hi => by
    simp only [List.getD_eq_getElem?_getD, List.getElem?_set]
    split
    · simp [hi]
    · rfl
  rw [gs _ j _ (by simp; omega), gs _ k _ (by omega)]
  by_cases c1 : j = t
  · subst c1
    rw [if_pos rfl, e1 k d (by omega), h3 k e (by omega), if_neg (by omega), if_pos (by omega)]
    congr 1; omega
  · rw [if_neg c1]
    by_cases c2 : k = t
    · subst c2
      rw [if_pos rfl, e1 j d (by omega), h3 j e (by omega), if_neg (by omega), if_pos (by omega)]
      congr 1; omega
    · rw [if_neg c2, h3 t e ht]
      by_cases c3 : t < k ∨ n ≤ t + k
      · rw [if_pos c3, if_pos (by omega)]
      · rw [if_neg c3, if_neg (by omega)]
theorem Revd.done {α : Type} [Inhabited α] {l m : List α} {n k : Nat} (h : Revd l m n k) (hk : n ≤ 2 * k + 1) : m = l.reverse := by
  obtain ⟨h1, h2, h3⟩ := h
  apply List.ext_getElem (by simp [h1, h2])
  intro t ht1 ht2
  have e := h3 t default (by omega)
  have g1 : m.getD t default = m[t] := by simp [List.getD_eq_getElem?_getD, List.getElem?_eq_getElem ht1]
  have g2 : l.getD (n - 1 - t) default = l[n - 1 - t]'(by omega) := by simp [List.getD_eq_getElem?_getD, List.getElem?_eq_getElem (show n - 1 - t < l.length by omega)]
  rw [List.getElem_reverse, ← g1, e]
  have : l[l.length - 1 - t]'(by omega) = l.getD (n - 1 - t) default := by rw [g2]; congr 1; omega
  rw [this]
  by_cases c : t < k ∨ n ≤ t + k
  · rw [if_pos c]
  · rw [if_neg c]
    congr 1; omega

theorem row_new (w : World) (cs : Array Value) (T : TypeId) (n sz : Nat) (h : cs.size = n * sz) : Row (w.alloc (.cells cs T)) (some ⟨w.heap.size, 0, none⟩) n sz cs.toList :=
  ⟨by simpa using h, fun _ => ⟨w.heap.size, 0, rfl, by simp, fun j _ => by simp⟩⟩

end Go.Proofs.Ytkebldjepdhioaa

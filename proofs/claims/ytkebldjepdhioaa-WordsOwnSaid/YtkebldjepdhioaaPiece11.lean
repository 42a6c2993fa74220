import Derived.Test.YtkebldjepdhioaaPiece3
import Derived.Test.YtkebldjepdhioaaReed6
import Derived.Test.YtkebldjepdhioaaApp
import Derived.Test.YtkebldjepdhioaaMake
import Derived.Deep.AppendSrc
import Derived.Deep.Upon
import Derived.Test.YtkebldjepdhioaaStrs
import Derived.BigRegion
import Derived.Deep.Cut
import Derived.Deep.CutRange
import Derived.Deep.RegionLaw
import Derived.Deep.RegionHeld3
import Derived.Test.YtkebldjepdhioaaBase
import Derived.Maps.AppendAt
/-
  Plain: what a piece is, and which strings are pieces. No program in sight.
-/
set_option linter.unusedVariables false
set_option linter.unusedSimpArgs false
namespace Go.Proofs.Ytkebldjepdhioaa

theorem gdl_ {α : Type} (l m : List α) (d : α) {k : Nat} (h : k < l.length) : (l ++ m).getD k d = l.getD k d := by
  rw [List.getD_eq_getElem?_getD, List.getElem?_append_left h, ← List.getD_eq_getElem?_getD]
theorem gdr_ {α : Type} (l m : List α) (d : α) {k : Nat} (h : l.length ≤ k) : (l ++ m).getD k d = m.getD (k - l.length) d := by
  rw [List.getD_eq_getElem?_getD, List.getElem?_append_right h, ← List.getD_eq_getElem?_getD]
/-- The four bytes of a checksum. -/
def le4 (x : Nat) : List Nat := [x % 256, x / 256 % 256, x / 65536 % 256, x / 16777216 % 256]
def sumS (s : Nat → Nat) (n : Nat) : Nat := 4294967295 ^^^ crcS s n
theorem sumS_lt (s : Nat → Nat) (hs : ∀ k, s k < 256) (n : Nat) : sumS s n < 4294967296 := Nat.xor_lt_two_pow (n := 32) (by omega) (crcS_lt s hs n)
theorem sumS_same {s t : Nat → Nat} {n : Nat} (h : ∀ k, k < n → s k = t k) : sumS s n = sumS t n := by unfold sumS; rw [crcS_same s t n h]
theorem le4_lt (x : Nat) : ∀ y ∈ le4 x, y < 256 := by
  intro y hy
  simp only [le4, List.mem_cons, List.not_mem_nil, or_false] at hy
  omega
theorem le4_inj {x y : Nat} (hx : x < 4294967296) (hy : y < 4294967296) (h : le4 x = le4 y) : x = y := by
  simp only [le4, List.cons.injEq, and_true] at h
  omega
def gd (l : List Nat) (k : Nat) : Nat := l.getD k 0
theorem gd_lt {l : List Nat} (h : ∀ x ∈ l, x < 256) (k : Nat) : gd l k < 256 := by
  unfold gd
  rw [List.getD_eq_getElem?_getD]
  cases e : l[k]? with
  | none => show 0 < 256; omega
  | some x => exact h x (List.mem_of_getElem? e)
/-- A piece: the length, a part, the checksum. -/
def sealL (len : Nat) (part : List Nat) : List Nat := (len :: part) ++ le4 (sumS (gd (len :: part)) (part.length + 1))
theorem sealL_length (len : Nat) (part : List Nat) : (sealL len part).length = part.length + 5 := by simp [sealL, le4]
theorem sealL_lt {len : Nat} {part : List Nat} (h0 : len < 256) (h : ∀ x ∈ part, x < 256) : ∀ x ∈ sealL len part, x < 256 := by
  intro x hx
  unfold sealL at hx
  rcases List.mem_append.1 hx with hx | hx
  · rcases List.mem_cons.1 hx with rfl | hx
    · exact h0
    · exact h x hx
  · exact le4_lt _ x hx
theorem sealL_zero (len : Nat) (part : List Nat) : gd (sealL len part) 0 = len := rfl
theorem sealL_part {len : Nat} {part : List Nat} {k : Nat} (h : k < part.length) : gd (sealL len part) (1 + k) = gd part k := by
  unfold gd sealL
  rw [gdl_ _ _ _ (by simp; omega), Nat.add_comm 1 k]
  rfl
theorem sealL_body {len : Nat} {part : List Nat} {k : Nat} (h : k < part.length + 1) : gd (sealL len part) k = gd (len :: part) k := by
  unfold gd sealL
  rw [gdl_ _ _ _ (by simpa using h)]
theorem sealL_sum {len : Nat} {part : List Nat} {t : Nat} (h : t < 4) : gd (sealL len part) (part.length + 1 + t) = gd (le4 (sumS (gd (len :: part)) (part.length + 1))) t := by
  unfold gd sealL
  rw [gdr_ _ _ _ (by simp)]
  congr 1
  simp

/-- How long a part is. -/
def sz (l k : Nat) : Nat := (l + k - 1) / k
/-- The data of one row of the pieces, and the parts. -/
def dataL (s : ByteArray) (k m i : Nat) : List Nat := (List.range k).map fun j => if j * m + i < s.size then sby s (j * m + i) else 0
def colL (s : ByteArray) (k m n j : Nat) (t : Nat) : List Nat := (List.range t).map fun i => (Wm.putL (dataL s k m i) n).getD j 0
def splitL (s : ByteArray) (k n : Nat) : List ByteArray := (List.range n).map fun j => strN (sealL s.size (colL s k (sz s.size k) n j (sz s.size k)))
theorem dataL_length (s : ByteArray) (k m i : Nat) : (dataL s k m i).length = k := by simp [dataL]
theorem dataL_lt (s : ByteArray) (k m i : Nat) : Wm.B256 (dataL s k m i) := Wm.B256.of fun x hx => by
  obtain ⟨j, -, rfl⟩ := List.mem_map.1 hx
  split
  · exact sby_lt _ _
  · omega
theorem colL_length (s : ByteArray) (k m n j t : Nat) : (colL s k m n j t).length = t := by simp [colL]
theorem colL_lt (s : ByteArray) (k m n j t : Nat) (hk : k ≤ n) (hn : n ≤ 256) : ∀ x ∈ colL s k m n j t, x < 256 := by
  intro x hx
  obtain ⟨i, -, rfl⟩ := List.mem_map.1 hx
  exact Wm.putL_lt (dataL_lt s k m i) (by rw [dataL_length]; omega) hn j
theorem colL_succ (s : ByteArray) (k m n j t : Nat) : colL s k m n j (t + 1) = colL s k m n j t ++ [(Wm.putL (dataL s k m t) n).getD j 0] := by simp [colL, List.range_succ]
theorem splitL_length (s : ByteArray) (k n : Nat) : (splitL s k n).length = n := by simp [splitL]
theorem splitL_get {s : ByteArray} {k n j : Nat} (h : j < n) : (splitL s k n).getD j ByteArray.empty = strN (sealL s.size (colL s k (sz s.size k) n j (sz s.size k))) := by
  unfold splitL
  rw [List.getD_eq_getElem?_getD, List.getElem?_map, List.getElem?_range h]; rfl

/-- Which strings are pieces. -/
def sumOk (s : ByteArray) : Prop := ∀ t, t < 4 → sby s (s.size - 4 + t) = gd (le4 (sumS (sby s) (s.size - 4))) t
instance (s : ByteArray) : Decidable (sumOk s) := by unfold sumOk; exact inferInstance
def chkErr (s : ByteArray) (k : Int) : Int := if k < 1 ∨ 10 < k then 1 else if s.size < 5 then 7 else if ¬ sumOk s then 8 else if 60 < sby s 0 ∨ s.size - 4 ≠ 1 + sz (sby s 0) k.toNat then 3 else 0
def good (s : ByteArray) (k : Nat) : Prop := chkErr s k = 0
theorem good_iff {s : ByteArray} {k : Nat} (h1 : 1 ≤ k) (h2 : k ≤ 10) : chkErr s k = 0 ↔ 5 ≤ s.size ∧ sumOk s ∧ sby s 0 ≤ 60 ∧ s.size = 5 + sz (sby s 0) k := by
  unfold chkErr
  rw [if_neg (by omega)]
  by_cases a : s.size < 5
  · rw [if_pos a]; constructor
    · intro h; omega
    · intro h; omega
  · rw [if_neg a]
    by_cases b : sumOk s
    · rw [if_neg (by simpa using b)]
      by_cases c : 60 < sby s 0 ∨ s.size - 4 ≠ 1 + sz (sby s 0) ((k : Int)).toNat
      · rw [if_pos c]
        simp only [Int.toNat_natCast] at c
        constructor
        · intro h; omega
        · rintro ⟨-, -, h3, h4⟩; omega
      · rw [if_neg c]
        simp only [Int.toNat_natCast] at c
        exact ⟨fun _ => ⟨by omega, b, by omega, by omega⟩, fun _ => rfl⟩
    · rw [if_pos (by simpa using b)]
      constructor
      · intro h; omega
      · intro h; exact absurd h.2.1 b

theorem sby_strN (l : List Nat) (h : ∀ x ∈ l, x < 256) {k : Nat} (hk : k < l.length) : sby (strN l) k = gd l k := strN_byt l h hk
/-- What is sealed is a piece. -/
theorem seal_good {len k : Nat} {part : List Nat} (h1 : 1 ≤ k) (h2 : k ≤ 10) (h0 : len ≤ 60) (h : ∀ x ∈ part, x < 256) (hl : part.length = sz len k) : chkErr (strN (sealL len part)) k = 0 := by
  have hlt := sealL_lt (len := len) (by omega) h
  have hsz : (strN (sealL len part)).size = part.length + 5 := by rw [strN_size, sealL_length]
  have hby : ∀ k, k < part.length + 5 → sby (strN (sealL len part)) k = gd (sealL len part) k := fun k hk => sby_strN _ hlt (by rw [sealL_length]; exact hk)
  refine (good_iff h1 h2).2 ⟨by omega, fun t ht => ?_, ?_, ?_⟩
  · rw [hsz, hby _ (by omega), show part.length + 5 - 4 = part.length + 1 by omega, sealL_sum ht]
    congr 2
    exact sumS_same fun k hk => by rw [hby k (by omega), sealL_body hk]
  · rw [hby 0 (by omega), sealL_zero]; exact h0
  · rw [hby 0 (by omega), sealL_zero, hsz]; omega
end Go.Proofs.Ytkebldjepdhioaa

/-
  Slices of slices of the call's own: 'Rack w0 W g n vs K xs': the n headers at block g are vs; each is a slice of the call's own that holds the numbers xs j; append to one of them. append of whatever row.
-/
set_option linter.unusedVariables false
set_option linter.unusedSimpArgs false
namespace Go.Proofs.Ytkebldjepdhioaa
open Go.RowKit

/-- The walk stops here. -/
def Stop (p : Prop) : Prop := p
theorem stop {p : Prop} (h : Stop p) : p := h
/-- What several ways come to is shown once. -/
theorem share {p q : Prop} (h1 : p → q) (h2 : p) : q := h1 h2
/-- append of a row, which may be empty or nil, to a slice of the call's own. -/
theorem wpList_app_any {P : Program} {ops : Array Oper} {rest : List Oper} {o : Oper} {a : Act} {w : World} {Q : Exit → Act → World → Prop} (hgd : o.guard = none) (s x : Operand) (t : TypeId)
    (ho : o.op = .call { callee := .builtin .append, args := #[s, x], argTypes := #[t, t] }) (e : TypeId) {z : Value} {size bytes : Nat} (hI : EInfo P t e z size bytes) (base : Nat)
    (v : Value) (n : Nat) (xs : List Value) (hs : a.eval s = v) (hown : w.ownsRow base e size v n xs) (A : Option Addr) (m c : Nat) (news : List Value) (hx : a.eval x = .slice A m c) (R : Row w A m size news)
    (h1 : news.all (fun u => u.oneCell') = true) (hb : (n + m) * bytes ≤ 140737488355328 ∧ n + m ≤ 9223372036854775807) (hbase : base ≤ w.heap.size)
    (h : ∀ v' w', w'.ownsRow base e size v' (n + m) (xs ++ news) → w.grownBy w' v.ownBlock → (v'.ownBlock = v.ownBlock ∨ v'.ownBlock = some w.heap.size) → wpList P ops Q rest (a.put o.dst v') w') :
    wpList P ops Q (o :: rest) a w := by
  obtain ⟨ht, ⟨i, hi, hz, hsz, hby⟩, hzs, hsz0⟩ := hI
  by_cases hm : m = 0
  · subst hm
    have hnil : news = [] := R.empty
    subst hnil
    refine wpList_plain hgd fun K hK => ?_
    have hsrc : Src P i.size t (.slice A 0 c) 0 [] w := by
      cases A with
      | none => exact Src.ofNil w ht c
      | some ad => exact Src.ofSlice w ht ad 0 c [] (by simp) (fun j u hj => by simp at hj) (fun u hu => by simp at hu)
    obtain ⟨bs, sl, sc, hv, hle⟩ : ∃ bs sl sc, v = .slice bs sl sc ∧ sl ≤ sc := by
      rcases hown.2 with ⟨h2, -⟩ | ⟨g, cap, cur, h2, -, -, h3, -⟩
      · exact ⟨none, 0, 0, h2, Nat.le_refl _⟩
      · exact ⟨_, _, _, h2, h3⟩
    have hr := run_append_nothing (P := P) w t t o.type e i ht hi bs sl sc hle (.slice A 0 c) hsrc
    unfold Oper.wp execOp
    rw [hv] at hs
    simp only [ho, resolve, invoke, builtin, Sem.run_bind, Sem.run_pure, Result.andThen_ok, List.map_toArray, List.map_cons, List.map_nil, hs, hx, hr]
    refine hK _ _ (h _ w ?_ (World.grownBy.refl w _) (.inl (by rw [hv])))
    rw [Nat.add_zero, List.append_nil, ← hv]
    exact hown
  · obtain ⟨b, off, rfl, hbl, hc⟩ := R.2 (by omega)
    refine wpList_append_own_at _ hgd s x t ho base e i z size bytes ht hi hz hsz hby hzs hsz0 v n xs hs hown ⟨b, off, none⟩ m c news hx R.1 ?_ (fun u hu => List.all_eq_true.1 h1 u hu) (by unfold maxLen; omega) (by omega) hbase fun v' w' h1 h2 _ h3 => h v' w' h1 h2 h3
    intro j u hj
    have hlt : j < m * size := by rw [← R.1]; exact (List.getElem?_eq_some_iff.1 hj).1
    have : (⟨b, off, none⟩ : Addr).add j = ⟨b, off + j, none⟩ := by
      unfold Addr.add
      split
      · rename_i h0; simp [h0]
      · rfl
    rw [this, hc j hlt, hj]

def upv {α : Type} (f : Nat → α) (j : Nat) (x : α) : Nat → α := fun i => if i = j then x else f i
theorem upv_same {α : Type} (f : Nat → α) (j : Nat) (x : α) : upv f j x j = x := if_pos rfl
theorem upv_ne {α : Type} (f : Nat → α) {i j : Nat} (x : α) (h : i ≠ j) : upv f j x i = f i := if_neg h

/-- Slices of slices of numbers. -/
structure Rack (K : IntKind) (e : TypeId) (w0 W : World) (g n : Nat) (vs : Nat → Value) (xs : Nat → List Nat) : Prop where
  ext : Ext w0 W
  lo : w0.heap.size ≤ g
  hi : g < W.heap.size
  cell : ∀ j, j < n → W.cell? ⟨g, j, none⟩ = some (vs j)
  open_ : ∀ j, j < n → W.frozen? ⟨g, j, none⟩ = false
  own : ∀ j, j < n → W.ownsRow w0.heap.size e 1 (vs j) (xs j).length (nats K (xs j))
  off : ∀ j, j < n → (vs j).ownBlock ≠ some g
  apart : ∀ i j, i < n → j < n → i ≠ j → ∀ b, (vs i).ownBlock = some b → (vs j).ownBlock ≠ some b
section
variable {K : IntKind} {e : TypeId} {w0 W W' : World} {g n : Nat} {vs : Nat → Value} {xs : Nat → List Nat}
theorem Rack.keep (T : Rack K e w0 W g n vs xs) (E : Ext W W') : Rack K e w0 W' g n vs xs where
  ext := T.ext.trans E
  lo := T.lo
  hi := Nat.lt_of_lt_of_le T.hi E.size
  cell j hj := (E.cell (p := ⟨g, j, none⟩) T.hi).trans (T.cell j hj)
  open_ j hj := (E.frozen (p := ⟨g, j, none⟩) T.hi).trans (T.open_ j hj)
  own j hj := row_ext (T.own j hj) E
  off := T.off
  apart := T.apart
/-- Nothing in any of them. -/
theorem Rack.start {w0 W' : World} {g n : Nat} (E : Ext w0 W') (lo : w0.heap.size ≤ g) (hi : g < W'.heap.size) (cell : ∀ j, j < n → W'.cell? ⟨g, j, none⟩ = some (.slice none 0 0)) (op : ∀ j, j < n → W'.frozen? ⟨g, j, none⟩ = false) :
    Rack K e w0 W' g n (fun _ => .slice none 0 0) (fun _ => []) where
  ext := E
  lo := lo
  hi := hi
  cell := cell
  open_ := op
  own _ _ := World.ownsRow_nil _ _ _ _
  off _ _ h := by cases h
  apart _ _ _ _ _ _ h := by cases h
/-- One of them turns, in its own row or into a new block; and its header is stored. -/
theorem Rack.turn (T : Rack K e w0 W g n vs xs) {i : Nat} (hi : i < n) {v' : Value} {ys : List Nat} (hown : W'.ownsRow w0.heap.size e 1 v' ys.length (nats K ys)) (hg : W.grownBy W' (vs i).ownBlock)
    (hat : v'.ownBlock = (vs i).ownBlock ∨ ∃ k, v'.ownBlock = some k ∧ W.heap.size ≤ k) : Rack K e w0 (W'.setCell ⟨g, i, none⟩ v') g n (upv vs i v') (upv xs i ys) := by
  have hE : Ext w0 W' := T.ext.grown hg fun k hk => ((T.own i hi).lt k hk).1
  have hs := hg.size
  have hgb : W'.heap[g]? = W.heap[g]? := hg.block g T.hi fun e => T.off i hi e.symm
  have hcell : ∀ j, W'.cell? ⟨g, j, none⟩ = W.cell? ⟨g, j, none⟩ := fun j => World.cell?_of_block (a := ⟨g, j, none⟩) hgb
  have hfro : ∀ j, W'.frozen? ⟨g, j, none⟩ = W.frozen? ⟨g, j, none⟩ := fun j => by unfold World.frozen?; rw [hgb]
  have hvg : v'.ownBlock ≠ some g := by
    rcases hat with h | ⟨k, h, hk⟩
    · rw [h]; exact T.off i hi
    · rw [h]; intro e; injection e with e; have := T.hi; omega
  have set_own : ∀ {v : Value} {l : List Nat}, v.ownBlock ≠ some g → W'.ownsRow w0.heap.size e 1 v l.length (nats K l) → (W'.setCell ⟨g, i, none⟩ v').ownsRow w0.heap.size e 1 v l.length (nats K l) := by
    intro v l hne h
    obtain ⟨h1, h2⟩ := h
    refine ⟨h1, ?_⟩
    rcases h2 with h2 | ⟨b, cap, cur, rfl, hb, hh, r⟩
    · exact .inl h2
    · refine .inr ⟨b, cap, cur, rfl, hb, ?_, r⟩
      have hbg : b ≠ g := fun e => hne (by rw [e]; rfl)
      rw [← hh]
      simp only [World.setCell]
      rw [Array.getElem?_modify, if_neg (fun e => hbg e.symm)]
  exact {
    ext := hE.setCell (by have := T.lo; exact this) _
    lo := T.lo
    hi := by have := T.hi; simp; omega
    cell := fun j hj => by
      by_cases c : j = i
      · subst c
        rw [upv_same]
        exact World.cell?_setCell_same' _ _ _ (by rw [hcell, T.cell j hj]; rfl)
      · rw [upv_ne _ _ c, World.cell?_setCell_other _ _ _ _ (by intro e; injection e with _ e; exact c e.symm), hcell]
        exact T.cell j hj
    open_ := fun j hj => by rw [World.frozen?_setCell, hfro]; exact T.open_ j hj
    own := fun j hj => by
      by_cases c : j = i
      · subst c
        rw [upv_same, upv_same]
        exact set_own hvg hown
      · rw [upv_ne _ _ c, upv_ne _ _ c]
        refine set_own (T.off j hj) ?_
        obtain ⟨h1, h2⟩ := T.own j hj
        refine ⟨h1, ?_⟩
        rcases h2 with h2 | ⟨b, cap, cur, hv, hb, hh, r⟩
        · exact .inl h2
        · refine .inr ⟨b, cap, cur, hv, hb, ?_, r⟩
          have hob : (vs j).ownBlock = some b := by rw [hv]; rfl
          rw [hg.block b ((T.own j hj).lt b hob).2 (fun e2 => T.apart j i hj hi c b hob e2.symm)]
          exact hh
    off := fun j hj => by
      by_cases c : j = i
      · subst c; rw [upv_same]; exact hvg
      · rw [upv_ne _ _ c]; exact T.off j hj
    apart := fun a b ha hb hab k hk => by
      have new : ∀ j, j < n → j ≠ i → ∀ k, (vs j).ownBlock = some k → v'.ownBlock ≠ some k := fun j hj hne k hk hk' => by
        rcases hat with h | ⟨q, h, hq⟩
        · rw [h] at hk'; exact T.apart j i hj hi hne k hk hk'
        · rw [h] at hk'; injection hk' with hk'
          have := ((T.own j hj).lt k hk).2
          omega
      by_cases c : a = i
      · subst c
        rw [upv_same] at hk
        rw [upv_ne _ _ (Ne.symm hab)]
        exact fun h => new b hb (Ne.symm hab) k h hk
      · rw [upv_ne _ _ c] at hk
        by_cases d : b = i
        · subst d; rw [upv_same]; exact new a ha c k hk
        · rw [upv_ne _ _ d]; exact T.apart a b ha hb hab k hk }
end
end Go.Proofs.Ytkebldjepdhioaa

/-
  The contract of piece.sealed.
-/
set_option linter.unusedVariables false
set_option linter.unusedSimpArgs false
namespace Go.Proofs.Ytkebldjepdhioaa
open Go.RowKit Go.BigFrame

theorem strN_append (l m : List Nat) : strN l ++ strN m = strN (l ++ m) := by
  unfold strN
  apply ByteArray.ext
  simp
theorem crcS_strN (l : List Nat) (h : ∀ x ∈ l, x < 256) : (4294967295 ^^^ crcS (sby (strN l)) (strN l).size) = sumS (gd l) l.length := by
  unfold sumS
  rw [strN_size, crcS_same (sby (strN l)) (gd l) l.length fun k hk => sby_strN l h hk]
theorem sealL_eq (len : Nat) (part : List Nat) : sealL len part = (len :: part) ++ le4 (sumS (gd (len :: part)) (len :: part).length) := by
  unfold sealL; rw [List.length_cons]
theorem u8_of (X : Nat) : IntKind.u8.wrap (X : Int) = ((X % 256 : Nat) : Int) := by
  show ((X : Int) % 256) = _
  omega

theorem four_str (X : Nat) (hX : X < 4294967296) (w : World) :
    (convert 47 9 (.slice (some ⟨w.heap.size, 0, none⟩) 4 4)).run Try.prog (w.alloc (.cells #[.int .u8 ((X : Int) % 256), .int .u8 ((X : Int) / 256 % 256), .int .u8 ((X : Int) / 65536 % 256), .int .u8 ((X : Int) / 16777216)] 5)) =
      .ok (.string (strN (le4 X))) (w.alloc (.cells #[.int .u8 ((X : Int) % 256), .int .u8 ((X : Int) / 256 % 256), .int .u8 ((X : Int) / 65536 % 256), .int .u8 ((X : Int) / 16777216)] 5)) := by
  have e3 : (X : Int) / 16777216 = ((X / 16777216 % 256 : Nat) : Int) := by omega
  have e2 : (X : Int) / 65536 % 256 = ((X / 65536 % 256 : Nat) : Int) := by omega
  have e1 : (X : Int) / 256 % 256 = ((X / 256 % 256 : Nat) : Int) := by omega
  have e0 : (X : Int) % 256 = ((X % 256 : Nat) : Int) := by omega
  rw [e0, e1, e2, e3]
  have key : ∀ a b c d : Nat, (convert 47 9 (.slice (some ⟨w.heap.size, 0, none⟩) 4 4)).run Try.prog (w.alloc (.cells #[.int .u8 (a : Int), .int .u8 (b : Int), .int .u8 (c : Int), .int .u8 (d : Int)] 5)) =
      .ok (.string (strN [a, b, c, d])) (w.alloc (.cells #[.int .u8 (a : Int), .int .u8 (b : Int), .int .u8 (c : Int), .int .u8 (d : Int)] 5)) := fun a b c d => by
    have hc : ∀ (cs : Array Value) (i : Nat), (w.alloc (.cells cs 5)).cell? ⟨w.heap.size, i, none⟩ = cs[i]? := fun cs i => by simp
    have := run_convert_bytes_arg (w.alloc (.cells #[.int .u8 (a : Int), .int .u8 (b : Int), .int .u8 (c : Int), .int .u8 (d : Int)] 5)) 47 5 Try.underlying47 Try.underlying5 w.heap.size 0 4 4 (([a, b, c, d] : List Nat).map fun (x : Nat) => (x : Int)) rfl (fun i hi => by
      rw [Nat.zero_add, hc]
      match i, hi with
      | 0, _ => rfl
      | 1, _ => rfl
      | 2, _ => rfl
      | 3, _ => rfl) 9 Try.underlying9
    rw [strN_nums] at this
    exact this
  exact key _ _ _ _

set_option maxRecDepth 100000 in
set_option maxHeartbeats 1000000 in
theorem sealed_ok (A : Option Addr) (m c len : Nat) (part : List Nat) (w : World) (R : Row w A m 1 (nats .u8 part)) (hl : len ≤ 60) (hm : m ≤ 1000) (hp : ∀ x ∈ part, x < 256) :
    Calls Try.prog 43 #[.int .i64 (len : Int), .slice A m c] w fun e w' => e = .returned (.string (strN (sealL len part))) ∧ Ext w w' := by
  have hlen := R.numN
  have hw0 : IntKind.u8.wrap (len : Int) = (len : Int) := IntWalk.u8_in _ (by omega)
  have HR := hide R
  have hall := hide (show ∀ x ∈ len :: part, x < 256 from fun x hx => by
    rcases List.mem_cons.1 hx with rfl | hx
    · omega
    · exact hp x hx)
  have h1 : (nats .u8 part).all (fun u => u.oneCell') = true := by simp [nats, Value.oneCell']
  have H1 := hide h1
  have hbd : (1 + m) * 1 ≤ 140737488355328 ∧ 1 + m ≤ 9223372036854775807 := by omega
  clear R hp h1
  go_enter Try.func43, Try.ntmps43
  go_wp2_with (at_builtin; refine wpList_app_any rfl _ _ 47 (by rfl) 5 byteR w.heap.size _ 1 [.int .u8 (len : Int)] (by rfl) (World.ownsRow_lit w #[.int .u8 (len : Int)] 1 (Nat.le_refl _) (by unfold maxLen; omega) rfl) A m c _ (by rfl) ((unhide HR).alloc _) (unhide H1) hbd (by simp) ?_)
  intro v' w2 hown hg hat
  obtain ⟨g, cap, rfl, hgb, hgl, -, -, hc⟩ := row_open hown (by omega)
  have E2 : Ext w w2 := ((Ext.refl w).alloc (.cells #[.int .u8 (len : Int)] 5)).grown hg (fun k hk => by
    simp only [Value.ownBlock, Option.some.injEq] at hk
    omega)
  have hlist : ([.int .u8 (len : Int)] ++ nats .u8 part : List Value) = nats .u8 (len :: part) := rfl
  have hco : (convert 47 9 (.slice (some ⟨g, 0, none⟩) (1 + m) cap)).run Try.prog w2 = .ok (.string (strN (len :: part))) w2 := by
    have hln : (len :: part).length = 1 + m := by rw [List.length_cons]; omega
    have := run_convert_bytes_arg w2 47 5 Try.underlying47 Try.underlying5 g 0 (1 + m) cap ((len :: part).map fun (x : Nat) => (x : Int)) (by simp; omega) (fun i hi => by
      rw [Nat.zero_add, hc i (by omega), show (Value.int IntKind.u8 (len : Int) :: nats IntKind.u8 part : List Value) = nats .u8 (len :: part) from rfl, nats_get _ _ _ (by omega), List.getD_eq_getElem?_getD, List.getD_eq_getElem?_getD, List.getElem?_map, List.getElem?_eq_getElem (by omega)]; rfl) 9 Try.underlying9
    rw [strN_nums] at this
    exact this
  have HS := hide (Sum_any (strN (len :: part)) (by rw [strN_size, List.length_cons]; omega) w2)
  rw [crcS_strN _ (unhide hall)] at HS
  have hXl := sumS_lt (gd (len :: part)) (gd_lt (unhide hall)) (len :: part).length
  have HE := hide E2
  have HEQ := hide (sealL_eq len part)
  obtain ⟨X, hX⟩ : ∃ X, X = sumS (gd (len :: part)) (len :: part).length := ⟨_, rfl⟩
  rw [← hX] at HS HEQ hXl
  have HXX := hide hX
  have hlen' := hlen
  clear hown hg hat hc hX E2 hgb hgl HR hlen hbd H1
  obtain ⟨s, hs⟩ : ∃ s, s = strN (len :: part) := ⟨_, rfl⟩
  rw [← hs] at hco HS
  have hss : ¬ 9223372036854775807 < s.size + (strN (le4 X)).size := by
    rw [hs, strN_size, strN_size, List.length_cons, hlen']
    simp [le4]; omega
  have HSE := hide hs
  clear hs hlist
  have hu0 := u8_of X
  go_wp2_with fail
  refine (unhide HS).mono ?_
  rintro e w3 ⟨rfl, rfl⟩
  have h4 := four_str X hXl w3
  go_wp2
  go_ret
  refine ⟨?_, (unhide HE).alloc _⟩
  rw [unhide HEQ, ← strN_append, ← unhide HSE]
  rfl
end Go.Proofs.Ytkebldjepdhioaa

/-
  The contract of piece.Split.
-/
set_option linter.unusedVariables false
set_option linter.unusedSimpArgs false
namespace Go.Proofs.Ytkebldjepdhioaa
open Go.RowKit Go.BigFrame

theorem rowsR : EInfo Try.prog 67 47 (.slice none 0 0) 1 24 := EInfo.mk_ Try.underlying67 (by kernel_rfl) rfl (by omega)
theorem strR : EInfo Try.prog 23 9 (.string ByteArray.empty) 1 16 := EInfo.mk_ Try.underlying23 (by kernel_rfl) rfl (by omega)

/-- The data of a row, the first j of them. -/
def dataP (s : ByteArray) (k m i j : Nat) : List Nat := (List.range k).map fun t => if t < j then (if t * m + i < s.size then sby s (t * m + i) else 0) else 0
theorem dataP_zero (s : ByteArray) (k m i : Nat) : dataP s k m i 0 = List.replicate k 0 := by
  apply List.ext_getElem (by simp [dataP])
  intro t h1 h2
  simp [dataP]
theorem dataP_full (s : ByteArray) (k m i : Nat) : dataP s k m i k = dataL s k m i := by
  apply List.ext_getElem (by simp [dataP, dataL])
  intro t h1 h2
  have ht : t < k := by simpa [dataP] using h1
  simp [dataP, dataL, ht]
theorem dataP_set (s : ByteArray) {k m i j : Nat} (h : j < k) (hs : j * m + i < s.size) : (dataP s k m i j).set j (sby s (j * m + i)) = dataP s k m i (j + 1) := by
  apply List.ext_getElem (by simp [dataP])
  intro t h1 h2
  rw [List.getElem_set]
  simp only [dataP, List.getElem_map, List.getElem_range]
  by_cases e : j = t
  · subst e; rw [if_pos rfl, if_pos (by omega), if_pos hs]
  · rw [if_neg e]
    by_cases c : t < j
    · rw [if_pos c, if_pos (show t < j + 1 by omega)]
    · rw [if_neg c, if_neg (show ¬ t < j + 1 by omega)]
theorem dataP_skip (s : ByteArray) {k m i j : Nat} (hs : ¬ j * m + i < s.size) : dataP s k m i j = dataP s k m i (j + 1) := by
  apply List.ext_getElem (by simp [dataP])
  intro t h1 h2
  simp only [dataP, List.getElem_map, List.getElem_range]
  by_cases c : t < j
  · rw [if_pos c, if_pos (show t < j + 1 by omega)]
  · rw [if_neg c]
    by_cases e : t = j
    · subst e; rw [if_pos (Nat.lt_succ_self t), if_neg hs]
    · rw [if_neg (show ¬ t < j + 1 by omega)]
/-- The pieces, the first j of them. -/
def splP (L : List ByteArray) (n j : Nat) : List ByteArray := (List.range n).map fun t => if t < j then L.getD t ByteArray.empty else ByteArray.empty
theorem splP_zero (L : List ByteArray) (n : Nat) : splP L n 0 = List.replicate n ByteArray.empty := by
  apply List.ext_getElem (by simp [splP])
  intro t h1 h2
  simp [splP]
theorem splP_full {L : List ByteArray} {n : Nat} (h : L.length = n) : splP L n n = L := by
  apply List.ext_getElem (by simp [splP, h])
  intro t h1 h2
  have ht : t < n := by simpa [splP] using h1
  simp [splP, ht, List.getD_eq_getElem?_getD, List.getElem?_eq_getElem h2]
theorem splP_set (L : List ByteArray) {n j : Nat} (h : j < n) : (splP L n j).set j (L.getD j ByteArray.empty) = splP L n (j + 1) := by
  apply List.ext_getElem (by simp [splP])
  intro t h1 h2
  rw [List.getElem_set]
  simp only [splP, List.getElem_map, List.getElem_range]
  by_cases e : j = t
  · subst e; rw [if_pos rfl, if_pos (by omega)]
  · rw [if_neg e]
    by_cases c : t < j
    · rw [if_pos c, if_pos (by omega)]
    · rw [if_neg c, if_neg (by omega)]
theorem strs_set (l : List ByteArray) (k : Nat) (x : ByteArray) : (strs l).set k (.string x) = strs (l.set k x) := by simp [strs, List.map_set]
theorem strs_replicate (n : Nat) (x : ByteArray) : List.replicate n (Value.string x) = strs (List.replicate n x) := by simp [strs]

theorem Rack.congr {K : IntKind} {e : TypeId} {w0 W : World} {g n : Nat} {vs : Nat → Value} {xs ys : Nat → List Nat} (T : Rack K e w0 W g n vs xs) (h : ∀ j, j < n → xs j = ys j) : Rack K e w0 W g n vs ys :=
  { T with own := fun j hj => by rw [← h j hj]; exact T.own j hj }
/-- Cells of other blocks. -/
theorem Rack.far {K : IntKind} {e : TypeId} {w0 W W' : World} {g n : Nat} {vs : Nat → Value} {xs : Nat → List Nat} (T : Rack K e w0 W g n vs xs) {i : Nat} (hi : i < n) {v' u : Value} {b o : Nat} (hb : b < W.heap.size) (hbg : b ≠ g)
    (hv : ∀ j, j < n → (vs j).ownBlock ≠ some b) (hg : W.grownBy W' (vs i).ownBlock) (hat : v'.ownBlock = (vs i).ownBlock ∨ ∃ k, v'.ownBlock = some k ∧ W.heap.size ≤ k) :
    (W'.setCell ⟨g, i, none⟩ u).cell? ⟨b, o, none⟩ = W.cell? ⟨b, o, none⟩ ∧ ∀ j, j < n → (upv vs i v' j).ownBlock ≠ some b := by
  refine ⟨?_, fun j hj => ?_⟩
  · rw [World.cell?_setCell_other _ _ _ _ (by intro e; injection e with e; exact hbg e.symm)]
    exact World.cell?_of_block (a := ⟨b, o, none⟩) (hg.block b hb fun e => hv i hi e.symm)
  · by_cases c : j = i
    · subst c
      rw [upv_same]
      rcases hat with h | ⟨k, h, hk⟩
      · rw [h]; exact hv j hj
      · rw [h]; intro e; injection e with e; omega
    · rw [upv_ne _ _ c]; exact hv j hj

/-- Where a header lies, behind the growth of its slice. -/
theorem Rack.place {K : IntKind} {e : TypeId} {w0 W W' : World} {g n : Nat} {vs : Nat → Value} {xs : Nat → List Nat} (T : Rack K e w0 W g n vs xs) {i : Nat} (hi : i < n) (hg : W.grownBy W' (vs i).ownBlock) :
    W'.cell? ⟨g, i, none⟩ = some (vs i) ∧ W'.frozen? ⟨g, i, none⟩ = false := by
  have hgb : W'.heap[g]? = W.heap[g]? := hg.block g T.hi fun e => T.off i hi e.symm
  refine ⟨(World.cell?_of_block (a := ⟨g, i, none⟩) hgb).trans (T.cell i hi), ?_⟩
  have := T.open_ i hi
  unfold World.frozen? at this ⊢
  rw [hgb]; exact this
theorem Rack.alloc {K : IntKind} {e : TypeId} {w0 W : World} {g n : Nat} {vs : Nat → Value} {xs : Nat → List Nat} (T : Rack K e w0 W g n vs xs) (o : Obj) : Rack K e w0 (W.alloc o) g n vs xs := T.keep ((Ext.refl W).alloc o)

set_option maxRecDepth 100000 in
set_option maxHeartbeats 4000000 in
theorem Split_ok (s : ByteArray) (k n : Nat) (w : World) (hs : s.size ≤ 60) (h1 : 1 ≤ k) (hkn : k ≤ n) (hn : n ≤ 10) :
    Calls Try.prog 17 #[.string s, .int .i64 (k : Int), .int .i64 (n : Int)] w fun e w' => (∃ g, e = .returned (.tuple #[.slice (some ⟨g, 0, none⟩) n n, .int .i64 0]) ∧ Made w' w.heap.size 9 1 (.slice (some ⟨g, 0, none⟩) n n) n (strs (splitL s k n))) ∧ Ext w w' := by
  obtain ⟨l, hl⟩ : ∃ l, l = s.size := ⟨_, rfl⟩
  have hlI : (s.size : Int) = (l : Int) := by rw [hl]
  obtain ⟨m, hm⟩ : ∃ m, m = sz l k := ⟨_, rfl⟩
  have CR := hide (right_any (k : Int) (n : Int) w)
  rw [show decide (1 ≤ (k : Int) ∧ (k : Int) ≤ (n : Int) ∧ (n : Int) ≤ 10) = true from decide_eq_true (by omega)] at CR
  have CS := hide (size_any l k w (by omega) h1 (by omega))
  have hm2 : (l + k - 1) / k = m := hm.symm
  rw [hm2] at CS
  have hml : m ≤ 60 := by
    rw [hm]; unfold sz
    have h2 : (l + k - 1) / k ≤ l := by
      rcases Nat.eq_zero_or_pos l with h | h
      · subst h; rw [Nat.div_eq_of_lt (by omega)]; omega
      · refine Nat.div_le_of_le_mul ?_
        obtain ⟨a, rfl⟩ : ∃ a, k = a + 1 := ⟨k - 1, by omega⟩
        obtain ⟨b, rfl⟩ : ∃ b, l = b + 1 := ⟨l - 1, by omega⟩
        have : (a + 1) * (b + 1) = a * b + a + b + 1 := by rw [Nat.mul_add, Nat.add_mul]; omega
        omega
    omega
  have hmk : ∀ w : World, (Instr.makeSlice 67 (.int .i64 (n : Int)) (.int .i64 (n : Int))).run Try.prog w = .ok (.slice (some ⟨w.heap.size, 0, none⟩) n n) (w.alloc (.cells (madeCells #[.slice none 0 0] n) 47)) := fun w => by
    have := make_run rowsR n n (Nat.le_refl _) (by omega) (by omega) w
    rw [Nat.mul_one] at this
    exact this
  have hmd : ∀ w : World, (Instr.makeSlice 47 (.int .i64 (k : Int)) (.int .i64 (k : Int))).run Try.prog w = .ok (.slice (some ⟨w.heap.size, 0, none⟩) k k) (w.alloc (.cells (madeCells #[.int .u8 0] k) 5)) := fun w => by
    have := make_run byteR k k (Nat.le_refl _) (by omega) (by omega) w
    rw [Nat.mul_one] at this
    exact this
  have hms : ∀ w : World, (Instr.makeSlice 23 (.int .i64 (n : Int)) (.int .i64 (n : Int))).run Try.prog w = .ok (.slice (some ⟨w.heap.size, 0, none⟩) n n) (w.alloc (.cells (madeCells #[.string ByteArray.empty] n) 9)) := fun w => by
    have := make_run strR n n (Nat.le_refl _) (by omega) (by omega) w
    rw [Nat.mul_one] at this
    exact this
  have T0 : Rack .u8 5 w (w.alloc (.cells (madeCells #[.slice none 0 0] n) 47)) w.heap.size n (fun _ => .slice none 0 0) (fun _ => []) := by
    have M := Made.make (w := w) (base := w.heap.size) (e := 47) (.slice none 0 0) n (Nat.le_refl _) (by omega)
    refine Rack.start ((Ext.refl w).alloc _) (Nat.le_refl _) (by simp) (fun j hj => ?_) (fun j hj => M.frozen j)
    rw [M.cell hj, List.getD_eq_getElem?_getD]; simp [hj]
  have HT := hide T0
  have hlen' : decide ((60 : Int) < (l : Int)) = false := decide_eq_false (by omega)
  have HL := hide hl
  have HM := hide hm
  clear T0 hl hm hm2
  go_enter Try.func17, Try.ntmps17
  go_wp2_with fail
  refine (unhide CR).mono ?_
  rintro e w1 ⟨rfl, rfl⟩
  go_wp2_with fail
  refine (unhide CS).mono ?_
  rintro e w2 ⟨rfl, rfl⟩
  go_wp2
  go_loopw [37] (fun i wr => ∃ x : Nat, x ≤ m ∧ i = .int .i64 x ∧ ∃ vs : Nat → Value, Hid (Rack .u8 5 w2 wr w2.heap.size n vs (fun j => colL s k m n j x))) (fun i _ => m - (intOf i).toNat)
  case atStart => exact ⟨0, Nat.zero_le _, rfl, _, hide ((unhide HT).congr fun j hj => by simp [colL])⟩
  case round =>
    obtain ⟨x, hx, rfl, vs, HR⟩ := hrel
    by_cases hlt : x < m
    · obtain ⟨wa, hwa⟩ : ∃ wa, wa = wr := ⟨_, rfl⟩
      subst hwa
      have M0 : Made (wa.alloc (.cells (madeCells #[.int .u8 0] k) 5)) wa.heap.size 5 1 (.slice (some ⟨wa.heap.size, 0, none⟩) k k) k (nats .u8 (dataP s k m x 0)) := by
        rw [dataP_zero, ← nats_replicate]
        exact Made.make (.int .u8 0) k (Nat.le_refl _) (by omega)
      have HM0 := hide M0
      clear M0
      have E0 : Ext wa (wa.alloc (.cells (madeCells #[.int .u8 0] k) 5)) := (Ext.refl wa).alloc _
      go_wp2
      go_loopw [43] (fun i wz => ∃ j : Nat, j ≤ k ∧ i = .int .i64 j ∧ Hid (Made wz wa.heap.size 5 1 (.slice (some ⟨wa.heap.size, 0, none⟩) k k) k (nats .u8 (dataP s k m x j))) ∧ Ext wa wz) (fun i _ => k - (intOf i).toNat)
      case atStart => exact ⟨0, Nat.zero_le _, rfl, HM0, E0⟩
      case round =>
        obtain ⟨j, hj, rfl, HMM, hext⟩ := hrel
        by_cases hjk : j < k
        · obtain ⟨p, hp⟩ : ∃ p, p = j * m := ⟨_, rfl⟩
          have hpl : p ≤ 600 := by rw [hp]; exact Nat.le_trans (Nat.mul_le_mul (show j ≤ 10 by omega) hml) (by omega)
          have hpI : (j : Int) * (m : Int) = (p : Int) := by rw [hp, Int.natCast_mul]
          obtain ⟨q, hq⟩ : ∃ q, q = p + x := ⟨_, rfl⟩
          have hqI : (p : Int) + (x : Int) = (q : Int) := by omega
          have HQ := hide (show q = j * m + x by omega)
          have hql : q ≤ 1000 := by omega
          clear hp hq hpl
          by_cases hqs : q < l
          · have hb := sby_get s q (by omega)
            have hqs1 : (q : Int) < (l : Int) := by omega
            have hqs2 : (q : Int) < (s.size : Int) := by omega
            have hqs3 : q < s.size := by omega
            have hq0 : (0 : Int) ≤ (q : Int) := by omega
            have hc := (unhide HMM).cell hjk
            have hf := (unhide HMM).frozen j
            have hwu : IntKind.u8.wrap ((sby s q : Nat) : Int) = ((sby s q : Nat) : Int) := IntWalk.u8_in _ (by have := sby_lt s q; omega)
            have HS2 := hide ((unhide HMM).set (j := j) (by omega) (.int .u8 ((sby s q : Nat) : Int)))
            rw [nats_set, unhide HQ, dataP_set s hjk (by rw [← unhide HQ]; exact hqs3), ← unhide HQ] at HS2
            generalize sby s q = bb at *
            go_wp2
            go_roundw
            case rel =>
              refine ⟨j + 1, by omega, by go_num, HS2, ?_⟩
              exact hext.setCell (by first | (simp; done) | (simp; omega)) _
            case measure => simp [intOf]; omega
          · have hqs1 : ¬ (q : Int) < (l : Int) := by omega
            have HS2 := HMM
            rw [dataP_skip s (show ¬ j * m + x < s.size by rw [← unhide HQ]; omega)] at HS2
            go_wp2
            go_roundw
            case rel => exact ⟨j + 1, by omega, by go_num, HS2, hext⟩
            case measure => simp [intOf]; omega
        · obtain rfl : j = k := by omega
          rw [dataP_full] at HMM
          obtain ⟨A1, c1, hA1, RD, -, -, -⟩ := (unhide HMM).open_
          injection hA1 with hA1 _ hc1
          subst hA1; subst hc1
          have CP := hide (Put_ok (some ⟨wa.heap.size, 0, none⟩) j j n (dataL s j m x) wr RD (dataL_lt s j m x) h1 hkn (by omega))
          have HE1 := hide hext
          obtain ⟨dl, hdl⟩ : ∃ dl, dl = Wm.putL (dataL s j m x) n := ⟨_, rfl⟩
          rw [← hdl] at CP
          have HDL := hide hdl
          have hdb := hide (show ∀ t, dl.getD t 0 < 256 from fun t => by rw [hdl]; exact Wm.putL_lt (dataL_lt s j m x) (by rw [dataL_length]; omega) (by omega) t)
          have HDN := hide (show dl.length = n from by rw [hdl, Wm.putL_length])
          clear HMM RD hdl hext E0 HM0
          go_wp2_with fail
          refine (unhide CP).mono ?_
          rintro e w4 ⟨⟨v, rfl, M4⟩, E4⟩
          have HEa := hide ((unhide HE1).trans E4)
          have hsz1 := (unhide HE1).size
          have hRb := unhide HR
          have hlo := hRb.hi
          obtain ⟨B, cb, rfl, RB, -, -, hBb⟩ := M4.open_
          obtain ⟨b, o, rfl, hbl, hcb⟩ := RB.2 (by omega)
          have hbb := (hBb b o rfl).1
          have hcells : ∀ t, t < n → w4.cell? ⟨b, o + t, none⟩ = some (.int .u8 ((dl.getD t 0 : Nat) : Int)) := fun t ht => by
            rw [hcb t (by omega), nats_get _ _ _ (by rw [unhide HDN]; exact ht)]
          have T4 := hide ((unhide HR).keep (unhide HEa))
          have HC4 := hide hcells
          have hbg : b ≠ w2.heap.size := by omega
          have HF4 := hide (show ∀ j, j < n → (vs j).ownBlock ≠ some b from fun j hj e => by
            have := (hRb.own j hj).lt b e
            omega)
          clear hcells hcb hBb RB M4 hRb hlo hsz1 E4 CP
          go_wp2
          go_loopw [70] (fun i wz => ∃ y : Nat, y ≤ n ∧ i = .int .i64 y ∧ ∃ us : Nat → Value, Hid (Rack .u8 5 w2 wz w2.heap.size n us (fun t => if t < y then colL s j m n t (x + 1) else colL s j m n t x)) ∧ b < wz.heap.size ∧ Hid (∀ t, t < n → (us t).ownBlock ≠ some b) ∧ Hid (∀ t, t < n → wz.cell? ⟨b, o + t, none⟩ = some (.int .u8 ((dl.getD t 0 : Nat) : Int)))) (fun i _ => n - (intOf i).toNat)
          case atStart => exact ⟨0, Nat.zero_le _, rfl, vs, hide ((unhide T4).congr fun t ht => by rw [if_neg (by omega)]), hbl, HF4, HC4⟩
          case round =>
            obtain ⟨y, hy, rfl, us, HRR, hbz, HF, HC⟩ := hrel
            by_cases hyn : y < n
            · have hcy := unhide HC y hyn
              obtain ⟨z, hz⟩ : ∃ z, z = dl.getD y 0 := ⟨_, rfl⟩
              rw [← hz] at hcy
              have hzl : z < 256 := by rw [hz]; exact unhide hdb y
              have HZ := hide hz
              clear hz
              obtain ⟨v, hv⟩ : ∃ v, v = us y := ⟨_, rfl⟩
              have hcv := (unhide HRR).cell y hyn
              rw [← hv] at hcv
              have HV := hide hv
              obtain ⟨wb, hwb⟩ : ∃ wb, wb = wr := ⟨_, rfl⟩
              subst hwb
              have TA := hide ((unhide HRR).alloc (.cells #[.int .u8 (z : Int)] 5))
              have hown := (unhide TA).own y hyn
              rw [← hv] at hown
              rw [if_neg (Nat.lt_irrefl y)] at hown
              have HOW := hide hown
              clear hown hv
              have hcl := colL_length s j m n y x
              have hbd : ((colL s j m n y x).length + 1) * 1 ≤ 140737488355328 ∧ (colL s j m n y x).length + 1 ≤ 9223372036854775807 := by omega
              have HBD := hide hbd
              clear hcl hbd
              go_wp2_with (at_builtin; refine wpList_app_any rfl _ _ 47 (by rfl) 5 byteR w2.heap.size _ _ _ (by rfl) (unhide HOW) _ 1 1 [.int .u8 (z : Int)] (by rfl) (row_new wb #[.int .u8 (z : Int)] 5 1 1 rfl) rfl (unhide HBD) (by have := (unhide TA).ext.size; exact this) ?_)
              intro v' w6 hown6 hg6 hat6
              obtain ⟨g6, c6, hv6, -⟩ := row_open hown6 (by omega)
              subst hv6
              obtain ⟨n6, hn6⟩ : ∃ n6, n6 = (colL s j m n y x).length + 1 := ⟨_, rfl⟩
              obtain ⟨v', hv'⟩ : ∃ v', v' = Value.slice (some ⟨g6, 0, none⟩) n6 c6 := ⟨_, rfl⟩
              rw [← hn6, ← hv'] at hown6 hat6
              rw [← hn6]
              have HN6 := hide hn6
              clear hn6
              have hgu : (wb.alloc (.cells #[.int .u8 (z : Int)] 5)).grownBy w6 (us y).ownBlock := by rw [← unhide HV]; exact hg6
              have hat : v'.ownBlock = (us y).ownBlock ∨ ∃ k, v'.ownBlock = some k ∧ (wb.alloc (.cells #[.int .u8 (z : Int)] 5)).heap.size ≤ k := by
                rcases hat6 with h | h
                · exact .inl (by rw [← unhide HV]; exact h)
                · exact .inr ⟨_, h, by simp⟩
              obtain ⟨hp1, hp2⟩ := (unhide TA).place hyn hgu
              rw [← unhide HV] at hp1
              have hown6' : w6.ownsRow w2.heap.size 5 1 v' (colL s j m n y (x + 1)).length (nats .u8 (colL s j m n y (x + 1))) := by
                rw [colL_succ, List.length_append, ← nats_append]
                have hz : nats .u8 [(Wm.putL (dataL s j m x) n).getD y 0] = [.int .u8 (z : Int)] := by rw [← unhide HDL, ← unhide HZ]; rfl
                rw [hz]
                have := unhide HN6
                rw [this] at hown6
                exact hown6
              have TT := hide ((unhide TA).turn hyn hown6' hgu hat)
              have FF := fun o => (unhide TA).far (u := v') hyn (v' := v') (b := b) (o := o) (by simp; omega) hbg (unhide HF) hgu hat
              have hbz2 : b < (w6.setCell ⟨w2.heap.size, y, none⟩ v').heap.size := by
                have := hgu.size
                simp at this ⊢
                omega
              have HFF := hide FF
              have HBZ := hide hbz2
              clear hown6 hown6' hg6 hat6 hgu hat FF hbz2
              subst hv'
              go_wp2
              go_roundw
              case rel =>
                refine ⟨y + 1, by omega, by go_num, _, hide ((unhide TT).congr fun t ht => ?_), unhide HBZ, hide (fun t ht => (unhide HFF 0).2 t ht), hide (fun t ht => ?_)⟩
                · by_cases c : t = y
                  · subst c; rw [upv_same, if_pos (Nat.lt_succ_self t)]
                  · rw [upv_ne _ _ c]
                    by_cases d : t < y
                    · rw [if_pos d, if_pos (show t < y + 1 by omega)]
                    · rw [if_neg d, if_neg (show ¬ t < y + 1 by omega)]
                · rw [(unhide HFF (o + t)).1]
                  have := unhide HC t ht
                  rw [← this]
                  exact World.cell?_of_block (Below.heap_alloc _ _ _ hbz)
              case measure => simp [intOf]; omega
            · obtain rfl : y = n := by omega
              have HN := hide ((unhide HRR).congr (ys := fun t => colL s j m y t (x + 1)) fun t ht => by rw [if_pos ht])
              go_wp2
              go_roundw
              case rel => exact ⟨x + 1, by omega, by go_num, us, HN⟩
              case measure => simp [intOf]; omega
    · obtain rfl : x = m := by omega
      obtain ⟨w4, hw4⟩ : ∃ w4, w4 = wr := ⟨_, rfl⟩
      subst hw4
      have M0 : Made (w4.alloc (.cells (madeCells #[.string ByteArray.empty] n) 9)) w4.heap.size 9 1 (.slice (some ⟨w4.heap.size, 0, none⟩) n n) n (strs (splP (splitL s k n) n 0)) := by
        rw [splP_zero, ← strs_replicate]
        exact Made.make (.string ByteArray.empty) n (Nat.le_refl _) (by omega)
      have HM0 := hide M0
      have E0 : Ext w4 (w4.alloc (.cells (madeCells #[.string ByteArray.empty] n) 9)) := (Ext.refl w4).alloc _
      have HE0 := hide E0
      have HG := hide (fun (y : Nat) (h : y < n) => splitL_get (s := s) (k := k) h)
      have HLN := hide (splitL_length s k n)
      rw [← unhide HL, ← unhide HM] at HG
      obtain ⟨L, hL⟩ : ∃ L, L = splitL s k n := ⟨_, rfl⟩
      rw [← hL] at HM0 HG HLN
      have HLL := hide hL
      clear M0 E0 hL
      go_wp2
      go_loopw [91] (fun i wz => ∃ y : Nat, y ≤ n ∧ i = .int .i64 y ∧ Hid (Made wz w4.heap.size 9 1 (.slice (some ⟨w4.heap.size, 0, none⟩) n n) n (strs (splP L n y))) ∧ Hid (Ext w4 wz)) (fun i _ => n - (intOf i).toNat)
      case atStart => exact ⟨0, Nat.zero_le _, rfl, HM0, HE0⟩
      case round =>
        obtain ⟨y, hy, rfl, HMM, HEX⟩ := hrel
        by_cases hyn : y < n
        · have TR := (unhide HR).keep (unhide HEX)
          have hcy := TR.cell y hyn
          obtain ⟨B, cb, hv, RB, -, -, -⟩ := row_of_own (TR.own y hyn)
          rw [hv] at hcy
          rw [colL_length] at hcy RB
          have CSL := hide (sealed_ok B x cb l _ wr RB (by omega) (by omega) (colL_lt s k x n y x hkn (by omega)))
          rw [← unhide HG y hyn] at CSL
          obtain ⟨S, hS⟩ : ∃ S, S = L.getD y ByteArray.empty := ⟨_, rfl⟩
          rw [← hS] at CSL
          have HSS := hide hS
          clear TR RB hv hS
          go_wp2_with fail
          refine (unhide CSL).mono ?_
          rintro e w5 ⟨rfl, E5⟩
          have HM5 := hide ((unhide HMM).keep E5)
          have HE5 := hide ((unhide HEX).trans E5)
          have hc5 := (unhide HM5).cell hyn
          have hf5 := (unhide HM5).frozen y
          have HM6 := hide ((unhide HM5).set (j := y) (by omega) (.string S))
          rw [strs_set, unhide HSS, splP_set L hyn, ← unhide HSS] at HM6
          clear E5 CSL
          go_wp2
          go_roundw
          case rel =>
            refine ⟨y + 1, by omega, by go_num, HM6, hide ?_⟩
            exact (unhide HE5).setCell (by first | (simp; done) | (simp; omega)) _
          case measure => simp [intOf]; omega
        · obtain rfl : y = n := by omega
          go_wp2
          go_ret2
          have hE := (unhide HR).ext
          refine ⟨⟨_, rfl, ?_⟩, hE.trans (unhide HEX)⟩
          have := (unhide HMM).mono hE.size
          rw [splP_full (unhide HLN)] at this
          rw [← unhide HLL]
          exact this
end Go.Proofs.Ytkebldjepdhioaa

/-
  piece.Split at whatever it is given; the contract of piece.Check.
-/
set_option linter.unusedVariables false
set_option linter.unusedSimpArgs false
namespace Go.Proofs.Ytkebldjepdhioaa
open Go.RowKit Go.BigFrame

theorem str_inj8 {a b : ByteArray} (h : a.toList = b.toList) : a = b := by
  rw [ByteArray.toList_eq, ByteArray.toList_eq] at h
  cases a; cases b
  simpa using h

set_option maxRecDepth 100000 in
set_option maxHeartbeats 4000000 in
/-- Why a string is not split. -/
def splErr (s : ByteArray) (k n : Int) : Int := if ¬ (1 ≤ k ∧ k ≤ n ∧ n ≤ 10) then 1 else if 60 < s.size then 2 else 0
set_option maxRecDepth 100000 in
theorem Split_bad (s : ByteArray) (k n : Int) (w : World) (hss : (s.size : Int) ≤ 9223372036854775807) (hb : splErr s k n ≠ 0) :
    Calls Try.prog 17 #[.string s, .int .i64 k, .int .i64 n] w fun e w' => e = .returned (.tuple #[.slice none 0 0, .int .i64 (splErr s k n)]) ∧ w' = w := by
  have CR := hide (right_any k n w)
  by_cases hr : 1 ≤ k ∧ k ≤ n ∧ n ≤ 10
  · have h2 : 60 < s.size := by
      unfold splErr at hb
      rw [if_neg (by simpa using hr)] at hb
      by_cases h : 60 < s.size
      · exact h
      · rw [if_neg h] at hb; exact absurd rfl hb
    rw [show decide (1 ≤ k ∧ k ≤ n ∧ n ≤ 10) = true from decide_eq_true hr] at CR
    have hE := hide (show splErr s k n = 2 from by unfold splErr; rw [if_neg (by simpa using hr), if_pos h2])
    have h2I : (60 : Int) < (s.size : Int) := by omega
    clear hb hr
    rw [unhide hE]
    go_enter Try.func17, Try.ntmps17
    go_wp2_with fail
    refine (unhide CR).mono ?_
    rintro e w1 ⟨rfl, rfl⟩
    go_wp2
    go_ret2
    exact ⟨rfl, rfl⟩
  · rw [show decide (1 ≤ k ∧ k ≤ n ∧ n ≤ 10) = false from decide_eq_false hr] at CR
    have hE : splErr s k n = 1 := by unfold splErr; rw [if_pos hr]
    rw [hE]
    clear hb hr hE
    go_enter Try.func17, Try.ntmps17
    go_wp2_with fail
    refine (unhide CR).mono ?_
    rintro e w1 ⟨rfl, rfl⟩
    go_wp2
    go_ret2
    exact ⟨rfl, rfl⟩

/-- What Split answers. -/
def SplitOut (s : ByteArray) (k n : Int) (w w' : World) (e : Ending) : Prop :=
  (splErr s k n ≠ 0 ∧ e = .returned (.tuple #[.slice none 0 0, .int .i64 (splErr s k n)])) ∨
  (splErr s k n = 0 ∧ ∃ (k' n' g : Nat), k = k' ∧ n = n' ∧ 1 ≤ k' ∧ k' ≤ n' ∧ n' ≤ 10 ∧ s.size ≤ 60 ∧ e = .returned (.tuple #[.slice (some ⟨g, 0, none⟩) n' n', .int .i64 0]) ∧ Made w' w.heap.size 9 1 (.slice (some ⟨g, 0, none⟩) n' n') n' (strs (splitL s k' n')))
theorem Split_any (s : ByteArray) (k n : Int) (w : World) (hss : (s.size : Int) ≤ 9223372036854775807) :
    Calls Try.prog 17 #[.string s, .int .i64 k, .int .i64 n] w fun e w' => SplitOut s k n w w' e ∧ Ext w w' := by
  by_cases hp : splErr s k n = 0
  · have hp' := hp
    unfold splErr at hp'
    by_cases hr : 1 ≤ k ∧ k ≤ n ∧ n ≤ 10
    · rw [if_neg (by simpa using hr)] at hp'
      by_cases h : 60 < s.size
      · rw [if_pos h] at hp'; omega
      · obtain ⟨k', rfl⟩ : ∃ k' : Nat, k = k' := ⟨k.toNat, by omega⟩
        obtain ⟨n', rfl⟩ : ∃ n' : Nat, n = n' := ⟨n.toNat, by omega⟩
        refine (Split_ok s k' n' w (by omega) (by omega) (by omega) (by omega)).mono ?_
        rintro e w' ⟨⟨g, he, M⟩, E⟩
        exact ⟨.inr ⟨hp, k', n', g, rfl, rfl, by omega, by omega, by omega, by omega, he, M⟩, E⟩
    · rw [if_pos hr] at hp'; omega
  · refine (Split_bad s k n w hss hp).mono ?_
    rintro e w' ⟨he, rfl⟩
    exact ⟨.inl ⟨hp, he⟩, Ext.refl _⟩

theorem sby_extract (s : ByteArray) (a b k : Nat) (hb : b ≤ s.size) (h : a + k < b) : sby (s.extract a b) k = sby s (a + k) := by
  unfold sby
  rw [Array.getD_eq_getD_getElem?, Array.getD_eq_getD_getElem?]
  have : (s.extract a b).data = s.data.extract a b := ByteArray.data_extract
  rw [this, Array.getElem?_extract, if_pos (by have : s.data.size = s.size := rfl; omega)]
theorem last_iff (s : ByteArray) (h : 5 ≤ s.size) : (s.extract (s.size - 4) s.size = strN (le4 (sumS (sby s) (s.size - 4)))) ↔ sumOk s := by
  have hl : (le4 (sumS (sby s) (s.size - 4))).length = 4 := rfl
  have hsz : (s.extract (s.size - 4) s.size).size = 4 := by rw [ByteArray.size_extract]; omega
  constructor
  · intro e t ht
    rw [← sby_strN _ (le4_lt _) (by rw [hl]; exact ht), ← e, sby_extract s _ _ _ (Nat.le_refl _) (by omega)]
  · intro hs
    refine str_ext (by rw [hsz, strN_size]; rfl) fun t ht => ?_
    rw [hsz] at ht
    rw [sby_extract s _ _ _ (Nat.le_refl _) (by omega), hs t ht, sby_strN _ (le4_lt _) (by rw [hl]; exact ht)]

end Go.Proofs.Ytkebldjepdhioaa

/-
  The builtin min of three or four numbers, as one step of a walk.
-/
set_option linter.unusedVariables false
set_option linter.unusedSimpArgs false
namespace Go.Proofs.Ytkebldjepdhioaa
open Go.RowKit

theorem min2_ite (x y : Int) : (if y < x then y else x) = min x y := by
  by_cases h : y < x
  · rw [if_pos h]; omega
  · rw [if_neg h]; omega
theorem wpList_min2 {P : Program} {ops : Array Oper} {rest : List Oper} {o : Oper} {act : Act} {w : World} {Q : Exit → Act → World → Prop} (hgd : o.guard = none) (x1 x2 : Operand) (ts : Array TypeId)
    (ho : o.op = .call { callee := .builtin .min, args := #[x1, x2], argTypes := ts }) (a b : Int) (h1 : act.eval x1 = .int .i64 a) (h2 : act.eval x2 = .int .i64 b) (m : Int) (hm : m = min a b)
    (h : wpList P ops Q rest (act.put o.dst (.int .i64 m)) w) : wpList P ops Q (o :: rest) act w := by
  refine wpList_plain hgd fun K hK => ?_
  have hr : (Builtin.min_ ts o.type #[.int .i64 a, .int .i64 b]).run P w = .ok (.int .i64 m) w := by
    rw [hm, ← min2_ite]; rfl
  unfold Oper.wp execOp
  simp only [ho, resolve, invoke, builtin, Sem.run_bind, Sem.run_pure, Result.andThen_ok, List.map_toArray, List.map_cons, List.map_nil, h1, h2, hr]
  exact hK _ _ h
theorem wpList_min3 {P : Program} {ops : Array Oper} {rest : List Oper} {o : Oper} {act : Act} {w : World} {Q : Exit → Act → World → Prop} (hgd : o.guard = none) (x1 x2 x3 : Operand) (ts : Array TypeId)
    (ho : o.op = .call { callee := .builtin .min, args := #[x1, x2, x3], argTypes := ts }) (a b c : Int) (h1 : act.eval x1 = .int .i64 a) (h2 : act.eval x2 = .int .i64 b) (h3 : act.eval x3 = .int .i64 c) (m : Int) (hm : m = min (min a b) c)
    (h : wpList P ops Q rest (act.put o.dst (.int .i64 m)) w) : wpList P ops Q (o :: rest) act w := by
  refine wpList_plain hgd fun K hK => ?_
  have hr : (Builtin.min_ ts o.type #[.int .i64 a, .int .i64 b, .int .i64 c]).run P w = .ok (.int .i64 m) w := by
    rw [hm, ← min2_ite, ← min2_ite]; rfl
  unfold Oper.wp execOp
  simp only [ho, resolve, invoke, builtin, Sem.run_bind, Sem.run_pure, Result.andThen_ok, List.map_toArray, List.map_cons, List.map_nil, h1, h2, h3, hr]
  exact hK _ _ h
theorem wpList_min4 {P : Program} {ops : Array Oper} {rest : List Oper} {o : Oper} {act : Act} {w : World} {Q : Exit → Act → World → Prop} (hgd : o.guard = none) (x1 x2 x3 x4 : Operand) (ts : Array TypeId)
    (ho : o.op = .call { callee := .builtin .min, args := #[x1, x2, x3, x4], argTypes := ts }) (a b c d : Int) (h1 : act.eval x1 = .int .i64 a) (h2 : act.eval x2 = .int .i64 b) (h3 : act.eval x3 = .int .i64 c) (h4 : act.eval x4 = .int .i64 d) (m : Int) (hm : m = min (min (min a b) c) d)
    (h : wpList P ops Q rest (act.put o.dst (.int .i64 m)) w) : wpList P ops Q (o :: rest) act w := by
  refine wpList_plain hgd fun K hK => ?_
  have hr : (Builtin.min_ ts o.type #[.int .i64 a, .int .i64 b, .int .i64 c, .int .i64 d]).run P w = .ok (.int .i64 m) w := by
    rw [hm, ← min2_ite, ← min2_ite, ← min2_ite]; rfl
  unfold Oper.wp execOp
  simp only [ho, resolve, invoke, builtin, Sem.run_bind, Sem.run_pure, Result.andThen_ok, List.map_toArray, List.map_cons, List.map_nil, h1, h2, h3, h4, hr]
  exact hK _ _ h
end Go.Proofs.Ytkebldjepdhioaa

/-
  Plain: what Join makes of a list of strings.
-/
set_option linter.unusedVariables false
set_option linter.unusedSimpArgs false
namespace Go.Proofs.Ytkebldjepdhioaa
open Go.RowKit Go.BigFrame

def usab (L : List ByteArray) (k j : Nat) : Bool := decide (chkErr (L.getD j ByteArray.empty) (k : Int) = 0)
/-- The length that the usable ones tell, after i of them. -/
def lenJ (L : List ByteArray) (k : Nat) : Nat → Int
  | 0 => -1
  | i + 1 => if usab L k i then (sby (L.getD i ByteArray.empty) 0 : Int) else lenJ L k i
/-- Two of them tell different lengths. -/
def mixJ (L : List ByteArray) (k : Nat) : Nat → Bool
  | 0 => false
  | i + 1 => mixJ L k i || (usab L k i && (decide (0 ≤ lenJ L k i) && decide ((sby (L.getD i ByteArray.empty) 0 : Int) ≠ lenJ L k i)))
theorem mixJ_mono {L : List ByteArray} {k : Nat} : ∀ {n x : Nat}, x ≤ n → mixJ L k x = true → mixJ L k n = true
  | 0, x, h, hx => by obtain rfl : x = 0 := by omega
                      exact hx
  | n + 1, x, h, hx => by
    by_cases e : x = n + 1
    · subst e; exact hx
    · simp only [mixJ, mixJ_mono (show x ≤ n by omega) hx, Bool.true_or]
theorem usab_good {L : List ByteArray} {k j : Nat} (h1 : 1 ≤ k) (h2 : k ≤ 10) (h : usab L k j = true) : 5 ≤ (L.getD j ByteArray.empty).size ∧ sumOk (L.getD j ByteArray.empty) ∧ sby (L.getD j ByteArray.empty) 0 ≤ 60 ∧ (L.getD j ByteArray.empty).size = 5 + sz (sby (L.getD j ByteArray.empty) 0) k :=
  (good_iff h1 h2).1 (of_decide_eq_true h)
theorem lenJ_lo (L : List ByteArray) (k : Nat) : ∀ n, -1 ≤ lenJ L k n
  | 0 => by show (-1 : Int) ≤ -1; omega
  | n + 1 => by
    unfold lenJ
    split
    · omega
    · exact lenJ_lo L k n
theorem lenJ_hi {L : List ByteArray} {k : Nat} (h1 : 1 ≤ k) (h2 : k ≤ 10) : ∀ n, lenJ L k n ≤ 60
  | 0 => by show (-1 : Int) ≤ 60; omega
  | n + 1 => by
    unfold lenJ
    split
    · rename_i h
      have := (usab_good h1 h2 h).2.2.1
      omega
    · exact lenJ_hi h1 h2 n
theorem lenJ_of {L : List ByteArray} {k : Nat} : ∀ {n : Nat}, mixJ L k n = false → ∀ t, t < n → usab L k t = true → (sby (L.getD t ByteArray.empty) 0 : Int) = lenJ L k n
  | 0, _, t, h, _ => by omega
  | n + 1, hm, t, ht, hu => by
    simp only [mixJ, Bool.or_eq_false_iff] at hm
    by_cases e : t = n
    · subst e
      unfold lenJ
      rw [if_pos hu]
    · have h0 := lenJ_of hm.1 t (by omega) hu
      unfold lenJ
      by_cases c : usab L k n = true
      · rw [if_pos c]
        have h2 := hm.2
        rw [c, Bool.true_and, Bool.and_eq_false_iff] at h2
        rcases h2 with h2 | h2
        · have := of_decide_eq_false h2; omega
        · have := of_decide_eq_false h2
          rw [h0]
          exact (Classical.byContradiction fun hn => this (fun e => hn e.symm))
      · rw [if_neg c]; exact h0
/-- Alike in all usable ones: it is told. -/
theorem mixJ_no {L : List ByteArray} {k l : Nat} : ∀ {n : Nat}, (∀ t, t < n → usab L k t = true → sby (L.getD t ByteArray.empty) 0 = l) → mixJ L k n = false ∧ (lenJ L k n = -1 ∨ lenJ L k n = (l : Int))
  | 0, _ => ⟨rfl, .inl rfl⟩
  | n + 1, h => by
    obtain ⟨h1, h2⟩ := mixJ_no (n := n) fun t ht => h t (by omega)
    by_cases c : usab L k n = true
    · have hl := h n (by omega) c
      refine ⟨?_, .inr ?_⟩
      · simp only [mixJ, h1, c, hl, Bool.false_or, Bool.true_and]
        rcases h2 with h2 | h2
        · rw [h2]; rfl
        · rw [h2]; simp
      · unfold lenJ; rw [if_pos c, hl]
    · have c' : usab L k n = false := by simpa using c
      refine ⟨by simp only [mixJ, h1, c', Bool.false_and, Bool.or_false], ?_⟩
      unfold lenJ; rw [if_neg c]; exact h2
theorem lenJ_some {L : List ByteArray} {k : Nat} : ∀ {n : Nat}, (∃ t, t < n ∧ usab L k t = true) → 0 ≤ lenJ L k n
  | 0, ⟨t, h, _⟩ => by omega
  | n + 1, ⟨t, h, hu⟩ => by
    unfold lenJ
    by_cases c : usab L k n = true
    · rw [if_pos c]; omega
    · rw [if_neg c]
      exact lenJ_some ⟨t, by
        by_cases e : t = n
        · subst e; exact absurd hu c
        · omega, hu⟩

def bls (l : List Bool) : List Value := l.map Value.bool
theorem bls_length (l : List Bool) : (bls l).length = l.length := List.length_map _
theorem bls_set (l : List Bool) (k : Nat) (x : Bool) : (bls l).set k (.bool x) = bls (l.set k x) := by simp [bls, List.map_set]
/-- Which are usable, the first j of them. -/
def usP (L : List ByteArray) (k n j : Nat) : List Bool := (List.range n).map fun t => if t < j then usab L k t else false
theorem usP_length (L : List ByteArray) (k n j : Nat) : (usP L k n j).length = n := by simp [usP]
theorem usP_zero (L : List ByteArray) (k n : Nat) : usP L k n 0 = List.replicate n false := by
  apply List.ext_getElem (by simp [usP])
  intro t h1 h2
  simp [usP]
theorem usP_set (L : List ByteArray) (k : Nat) {n j : Nat} (h : j < n) : (usP L k n j).set j (usab L k j) = usP L k n (j + 1) := by
  apply List.ext_getElem (by simp [usP])
  intro t h1 h2
  rw [List.getElem_set]
  simp only [usP, List.getElem_map, List.getElem_range]
  by_cases e : j = t
  · subst e; rw [if_pos rfl, if_pos (Nat.lt_succ_self j)]
  · rw [if_neg e]
    by_cases c : t < j
    · rw [if_pos c, if_pos (show t < j + 1 by omega)]
    · rw [if_neg c, if_neg (show ¬ t < j + 1 by omega)]
theorem usP_get (L : List ByteArray) (k : Nat) {n j : Nat} (h : j < n) : (bls (usP L k n n))[j]? = some (.bool (usab L k j)) := by
  simp [bls, usP, h]
theorem Made.bl {w : World} {base e : TypeId} {g n c : Nat} {L : List ByteArray} {k : Nat} (h : Made w base e 1 (.slice (some ⟨g, 0, none⟩) n c) n (bls (usP L k n n))) {j : Nat} (hj : j < n) : w.cell? ⟨g, j, none⟩ = some (.bool (usab L k j)) := by
  rw [h.cell hj, List.getD_eq_getElem?_getD, usP_get L k hj]; rfl

/-- The cells of one row, the first j of them. -/
def cellJ (L : List ByteArray) (k m i t : Nat) : Bool × Nat := (usab L k t, if usab L k t = true ∧ 0 < m then sby (L.getD t ByteArray.empty) (1 + i) else 0)
def celP (L : List ByteArray) (k m i n j : Nat) : List (Bool × Nat) := (List.range n).map fun t => if t < j then cellJ L k m i t else (false, 0)
def celJ (L : List ByteArray) (k m i n : Nat) : List (Bool × Nat) := (List.range n).map (cellJ L k m i)
theorem celP_zero (L : List ByteArray) (k m i n : Nat) : celP L k m i n 0 = List.replicate n (false, 0) := by
  apply List.ext_getElem (by simp [celP])
  intro t h1 h2
  simp [celP]
theorem celP_full (L : List ByteArray) (k m i n : Nat) : celP L k m i n n = celJ L k m i n := by
  apply List.ext_getElem (by simp [celP, celJ])
  intro t h1 h2
  have ht : t < n := by simpa [celP] using h1
  simp [celP, celJ, ht]
theorem celP_length (L : List ByteArray) (k m i n j : Nat) : (celP L k m i n j).length = n := by simp [celP]
theorem celP_set (L : List ByteArray) (k m i : Nat) {n j : Nat} (h : j < n) : (celP L k m i n j).set j (cellJ L k m i j) = celP L k m i n (j + 1) := by
  apply List.ext_getElem (by simp [celP])
  intro t h1 h2
  rw [List.getElem_set]
  simp only [celP, List.getElem_map, List.getElem_range]
  by_cases e : j = t
  · subst e; rw [if_pos rfl, if_pos (Nat.lt_succ_self j)]
  · rw [if_neg e]
    by_cases c : t < j
    · rw [if_pos c, if_pos (show t < j + 1 by omega)]
    · rw [if_neg c, if_neg (show ¬ t < j + 1 by omega)]
theorem celP_same (L : List ByteArray) {k m i n j : Nat} (h : cellJ L k m i j = (false, 0)) : celP L k m i n (j + 1) = celP L k m i n j := by
  apply List.ext_getElem (by simp [celP])
  intro t h1 h2
  simp only [celP, List.getElem_map, List.getElem_range]
  by_cases c : t < j
  · rw [if_pos c, if_pos (show t < j + 1 by omega)]
  · rw [if_neg c]
    by_cases e : t = j
    · subst e; rw [if_pos (Nat.lt_succ_self t), h]
    · rw [if_neg (show ¬ t < j + 1 by omega)]
theorem celJ_length (L : List ByteArray) (k m i n : Nat) : (celJ L k m i n).length = n := by simp [celJ]
theorem celJ_get (L : List ByteArray) (k m i : Nat) {n t : Nat} (h : t < n) : (celJ L k m i n).getD t (false, 0) = cellJ L k m i t := by
  unfold celJ
  rw [List.getD_eq_getElem?_getD, List.getElem?_map, List.getElem?_range h]; rfl
theorem celJ_lt (L : List ByteArray) (k m i n t : Nat) : Wm.cB (celJ L k m i n) t < 256 := by
  unfold Wm.cB
  by_cases h : t < n
  · rw [celJ_get L k m i h]
    unfold cellJ
    show (if _ then _ else _) < 256
    split
    · exact sby_lt _ _
    · omega
  · rw [List.getD_eq_getElem?_getD, List.getElem?_eq_none (by rw [celJ_length]; omega)]
    show 0 < 256; omega
theorem cls_set : ∀ (l : List (Bool × Nat)) (k : Nat) (p : Bool × Nat), k < l.length → cls (l.set k p) = ((cls l).set (k * 2) (.bool p.1)).set (k * 2 + 1) (.int .u8 ((p.2 : Nat) : Int))
  | [], k, p, h => by simp at h
  | q :: l, 0, p, _ => by simp [cls]
  | q :: l, k + 1, p, h => by
    rw [show (k + 1) * 2 = k * 2 + 1 + 1 by omega]
    simp [cls, cls_set l k p (by simpa using h)]
theorem cls_replicate : ∀ n, cls (List.replicate n (false, 0)) = (madeCells #[Value.bool false, .int .u8 0] (n * 2)).toList
  | n => by
    apply List.ext_getElem?
    intro t
    by_cases ht : t < n * 2
    · have h1 := cls_get (List.replicate n (false, 0)) (t / 2) (by simp; omega)
      have hg : (List.replicate n ((false, 0) : Bool × Nat)).getD (t / 2) (false, 0) = (false, 0) := by
        rw [List.getD_eq_getElem?_getD, List.getElem?_replicate, if_pos (by omega)]; rfl
      rw [hg] at h1
      unfold madeCells
      rw [Array.toList_map, Array.toList_range, List.getElem?_map, List.getElem?_range ht]
      rcases Nat.mod_two_eq_zero_or_one t with h | h
      · have e : t / 2 * 2 = t := by omega
        rw [e] at h1
        rw [h1.1]
        simp [h]
      · have e : t / 2 * 2 + 1 = t := by omega
        rw [e] at h1
        rw [h1.2]
        simp [h]
    · rw [List.getElem?_eq_none (by rw [cls_length]; simp; omega), List.getElem?_eq_none (by simp [madeCells]; omega)]

/-- The text on the way: i rows done, and j bytes of the next. -/
def txtJ (L : List ByteArray) (k m n t : Nat) : Nat := (Wm.mendL (celJ L k m (t % m) n) k).getD (t / m) 0
def txtP (L : List ByteArray) (k m n i j : Nat) : List Nat := (List.range (k * m)).map fun t => if t % m < i ∨ (t % m = i ∧ t / m < j) then txtJ L k m n t else 0
theorem txtP_zero (L : List ByteArray) (k m n : Nat) : txtP L k m n 0 0 = List.replicate (k * m) 0 := by
  apply List.ext_getElem (by simp [txtP])
  intro t h1 h2
  simp [txtP]
theorem txtP_next (L : List ByteArray) (k m n i : Nat) : txtP L k m n i k = txtP L k m n (i + 1) 0 := by
  apply List.ext_getElem (by simp [txtP])
  intro t h1 h2
  have ht : t < k * m := by simpa [txtP] using h1
  simp only [txtP, List.getElem_map, List.getElem_range]
  have hd : t / m < k := Nat.div_lt_of_lt_mul (by rw [Nat.mul_comm]; exact ht)
  generalize t / m = u at *
  generalize t % m = v at *
  by_cases c : v < i ∨ (v = i ∧ u < k)
  · rw [if_pos c, if_pos (show v < i + 1 ∨ (v = i + 1 ∧ u < 0) from by omega)]
  · rw [if_neg c, if_neg (show ¬ (v < i + 1 ∨ (v = i + 1 ∧ u < 0)) from by omega)]
theorem txtP_set (L : List ByteArray) {k m n i j : Nat} (hi : i < m) (hj : j < k) : (txtP L k m n i j).set (j * m + i) ((Wm.mendL (celJ L k m i n) k).getD j 0) = txtP L k m n i (j + 1) := by
  apply List.ext_getElem (by simp [txtP])
  intro t h1 h2
  have hmod : (j * m + i) % m = i := by rw [Nat.add_comm, Nat.add_mul_mod_self_right, Nat.mod_eq_of_lt hi]
  have hdiv : (j * m + i) / m = j := by rw [Nat.add_comm, Nat.add_mul_div_right _ _ (by omega), Nat.div_eq_of_lt hi, Nat.zero_add]
  rw [List.getElem_set]
  simp only [txtP, List.getElem_map, List.getElem_range]
  by_cases e : j * m + i = t
  · subst e
    rw [if_pos rfl, if_pos (.inr ⟨hmod, by omega⟩)]
    unfold txtJ
    rw [hmod, hdiv]
  · rw [if_neg e]
    by_cases c : t % m < i ∨ (t % m = i ∧ t / m < j)
    · rw [if_pos c, if_pos (show t % m < i ∨ (t % m = i ∧ t / m < j + 1) from by omega)]
    · rw [if_neg c, if_neg]
      rintro (h | ⟨h, h'⟩)
      · exact c (.inl h)
      · have : t / m = j := by
          by_cases d : t / m < j
          · exact absurd (.inr ⟨h, d⟩) c
          · omega
        apply e
        have := Nat.div_add_mod t m
        rw [Nat.mul_comm, ‹t / m = j›, h] at this
        exact this
theorem txtP_lt (L : List ByteArray) {k m n : Nat} (hkn : k ≤ n) (hn : n ≤ 10) (t : Nat) : txtJ L k m n t < 256 := by
  unfold txtJ Wm.mendL
  exact Wm.rowL_lt (Wm.B256.of fun x hx => by have := (Wm.pt_mem hx).1; rw [celJ_length] at this; omega) (Wm.B256.of fun y hy => by
    obtain ⟨z, -, rfl⟩ := List.mem_map.1 hy
    exact celJ_lt _ _ _ _ _ _) (by rw [celJ_length]; omega) _
/-- The answer of Join. -/
def lenN (L : List ByteArray) (k : Nat) : Nat := (lenJ L k L.length).toNat
def badJ (L : List ByteArray) (k m : Nat) : Nat → Bool
  | 0 => false
  | i + 1 => badJ L k m i || Wm.mendN (celJ L k m i L.length) k L.length
def joinErr (L : List ByteArray) (k : Int) : Int :=
  if ¬ (1 ≤ k ∧ k ≤ L.length ∧ L.length ≤ 10) then 1 else if mixJ L k.toNat L.length = true then 3 else if Wm.cntR (usab L k.toNat) L.length < k.toNat then 9 else if badJ L k.toNat (sz (lenN L k.toNat) k.toNat) (max (sz (lenN L k.toNat) k.toNat) 1) = true then 8 else 0
def joinText (L : List ByteArray) (k : Nat) : List Nat := (List.range (lenN L k)).map (txtJ L k (sz (lenN L k) k) L.length)
theorem celJ_cnt (L : List ByteArray) (k m i n : Nat) : Wm.cntR (Wm.cH (celJ L k m i n)) n = Wm.cntR (usab L k) n := by
  have h : ∀ x, x ≤ n → Wm.cntR (Wm.cH (celJ L k m i n)) x = Wm.cntR (usab L k) x := fun x => by
    induction x with
    | zero => intro _; rfl
    | succ x ih =>
      intro hx
      simp only [Wm.cntR]
      rw [ih (by omega)]
      unfold Wm.cH
      rw [celJ_get L k m i (show x < n by omega)]
      rfl
  exact h n (Nat.le_refl _)
end Go.Proofs.Ytkebldjepdhioaa

/-
  The contract of piece.Join.
-/
set_option linter.unusedVariables false
set_option linter.unusedSimpArgs false
namespace Go.Proofs.Ytkebldjepdhioaa
open Go.RowKit Go.BigFrame

theorem max2_ite (x y : Int) : (if x < y then y else x) = max x y := by
  by_cases h : x < y
  · rw [if_pos h]; omega
  · rw [if_neg h]; omega
theorem wpList_max2 {P : Program} {ops : Array Oper} {rest : List Oper} {o : Oper} {act : Act} {w : World} {Q : Exit → Act → World → Prop} (hgd : o.guard = none) (x1 x2 : Operand) (ts : Array TypeId)
    (ho : o.op = .call { callee := .builtin .max, args := #[x1, x2], argTypes := ts }) (a b : Int) (h1 : act.eval x1 = .int .i64 a) (h2 : act.eval x2 = .int .i64 b) (m : Int) (hm : m = max a b)
    (h : wpList P ops Q rest (act.put o.dst (.int .i64 m)) w) : wpList P ops Q (o :: rest) act w := by
  refine wpList_plain hgd fun K hK => ?_
  have hr : (Builtin.max_ ts o.type #[.int .i64 a, .int .i64 b]).run P w = .ok (.int .i64 m) w := by
    rw [hm, ← max2_ite]; rfl
  unfold Oper.wp execOp
  simp only [ho, resolve, invoke, builtin, Sem.run_bind, Sem.run_pure, Result.andThen_ok, List.map_toArray, List.map_cons, List.map_nil, h1, h2, hr]
  exact hK _ _ h
theorem Made.cellS {w : World} {base e : TypeId} {g n c sz : Nat} {xs : List Value} (h : Made w base e sz (.slice (some ⟨g, 0, none⟩) n c) n xs) {k : Nat} (hk : k < n * sz) : w.cell? ⟨g, k, none⟩ = some (xs.getD k undef) := by
  rcases h.2 with ⟨h2, -⟩ | ⟨g', c', cur, h3, h4, h5, h6, h7, h8, h9⟩
  · cases h2
  · injection h3 with h3 _ h3'
    simp only [Option.some.injEq, Addr.mk.injEq, and_true] at h3
    subst h3; subst h3'
    have hk2 : k < cur.size := Nat.lt_of_lt_of_le hk (Nat.le_trans (Nat.mul_le_mul_right sz h6) h8)
    rw [← h9, List.getD_eq_getElem?_getD, List.getElem?_take_of_lt hk, Array.getElem?_toList]
    simp [World.cell?, h5, hk2]
theorem cel_half (L : List ByteArray) (k m i : Nat) {n j : Nat} (h : j < n) : (cls (celP L k m i n j)).set (j * 2) (.bool true) = cls ((celP L k m i n j).set j (true, 0)) := by
  rw [cls_set _ _ _ (by rw [celP_length]; exact h)]
  have h2 := (cls_get (celP L k m i n j) j (by rw [celP_length]; exact h)).2
  have hg : (celP L k m i n j).getD j (false, 0) = (false, 0) := by
    unfold celP
    rw [List.getD_eq_getElem?_getD, List.getElem?_map, List.getElem?_range h]
    simp
  rw [hg] at h2
  apply List.ext_getElem?
  intro t
  by_cases c : t = j * 2 + 1
  · subst c
    rw [List.getElem?_set_ne (by omega), h2, List.getElem?_set_self]
    rw [List.length_set]
    exact (List.getElem?_eq_some_iff.1 h2).1
  · rw [List.getElem?_set_ne (l := (cls (celP L k m i n j)).set (j * 2) (.bool true)) (fun e => c e.symm)]
theorem len_le (l : Nat) {k : Nat} (hk : 1 ≤ k) : l ≤ k * sz l k := by
  unfold sz
  have h := Nat.div_add_mod (l + k - 1) k
  have h2 := Nat.mod_lt (l + k - 1) (show 0 < k by omega)
  omega
theorem sz_le {l k : Nat} (hk : 1 ≤ k) : sz l k ≤ l := by
  unfold sz
  rcases Nat.eq_zero_or_pos l with h | h
  · subst h; rw [Nat.div_eq_of_lt (by omega)]; omega
  · refine Nat.div_le_of_le_mul ?_
    obtain ⟨a, rfl⟩ : ∃ a, k = a + 1 := ⟨k - 1, by omega⟩
    obtain ⟨b, rfl⟩ : ∃ b, l = b + 1 := ⟨l - 1, by omega⟩
    have : (a + 1) * (b + 1) = a * b + a + b + 1 := by rw [Nat.mul_add, Nat.add_mul]; omega
    omega
theorem badJ_mono {L : List ByteArray} {k m : Nat} : ∀ {n x : Nat}, x ≤ n → badJ L k m x = true → badJ L k m n = true
  | 0, x, h, hx => by obtain rfl : x = 0 := by omega
                      exact hx
  | n + 1, x, h, hx => by
    by_cases e : x = n + 1
    · subst e; exact hx
    · simp only [badJ, badJ_mono (show x ≤ n by omega) hx, Bool.true_or]
theorem txtP_none (L : List ByteArray) (k n i j : Nat) : txtP L k 0 n i j = [] := by simp [txtP]

/-- What Join returns. -/
def joinOut (L : List ByteArray) (k : Int) : Value := .tuple #[.string (if joinErr L k = 0 then strN (joinText L k.toNat) else ByteArray.empty), .int .i64 (joinErr L k)]
theorem joinOut_bad {L : List ByteArray} {k r : Int} (h : joinErr L k = r) (hr : r ≠ 0) : joinOut L k = .tuple #[.string ByteArray.empty, .int .i64 r] := by
  unfold joinOut
  rw [h, if_neg hr]
theorem joinOut_good {L : List ByteArray} {k : Int} (h : joinErr L k = 0) : joinOut L k = .tuple #[.string (strN (joinText L k.toNat)), .int .i64 0] := by
  unfold joinOut
  rw [h, if_pos rfl]

end Go.Proofs.Ytkebldjepdhioaa

/-
  Plain: enough of the true pieces make the text; a piece of which one byte is turned is none.
-/
set_option linter.unusedVariables false
set_option linter.unusedSimpArgs false
namespace Go.Proofs.Ytkebldjepdhioaa

/-- Any k cells of a code row make it again. -/
theorem mend_any {d : List Nat} {n : Nat} {l : List (Bool × Nat)} (hd : Wm.B256 d) (hn : n ≤ 256) (hk : d.length ≤ n) (hl : l.length = n) (h8 : ∀ i, Wm.cB l i < 256) (hc : ∀ i, i < n → Wm.cH l i = true → Wm.cB l i = (Wm.putL d n).getD i 0)
    (hcnt : d.length ≤ Wm.cntR (Wm.cH l) n) : Wm.mendL l d.length = Wm.putL d n ∧ Wm.mendN l d.length n = false := by
  have key : Wm.mendL l d.length = Wm.putL d n := by
    unfold Wm.mendL
    rw [hl]
    have hlen : (Wm.pt (Wm.cH l) d.length n).length = d.length := by rw [Wm.pt_length]; omega
    refine Wm.mend_row hd hn (Wm.pt_nodup _ _ _) (fun x hx => (Wm.pt_mem hx).1) hlen hk (Wm.B256.of fun y hy => ?_) fun i hi => ?_
    · obtain ⟨i, -, rfl⟩ := List.mem_map.1 hy
      exact h8 i
    · have hm : (Wm.pt (Wm.cH l) d.length n).getD i 0 ∈ Wm.pt (Wm.cH l) d.length n := by
        rw [List.getD_eq_getElem?_getD, List.getElem?_eq_getElem hi]
        exact List.getElem_mem hi
      have h := Wm.pt_mem hm
      rw [Wm.getD_map_ 0 hi, hc _ h.1 h.2]
  exact ⟨key, Wm.mendN_of fun i hi h => by rw [key, hc i hi h]⟩

theorem putL_zeros (k n x : Nat) (hk : k ≤ n) (hn : n ≤ 10) : (Wm.putL (List.replicate k 0) n).getD x 0 = 0 := by
  by_cases hx : x < n
  · rw [Wm.putL_get hx]
    have hz : ∀ i, (List.replicate k 0).getD i 0 = 0 := fun i => by
      rw [List.getD_eq_getElem?_getD, List.getElem?_replicate]
      split <;> rfl
    have hb : ∀ i, (fun i => (List.replicate k 0).getD i 0) i < 256 := fun i => by show (List.replicate k 0).getD i 0 < 256; rw [hz]; omega
    have hp : ∀ i, (fun i => (List.range (List.replicate k 0).length).getD i 0) i < 256 := fun i => Wm.B256.range (by simp; omega) i
    have h := Wm.rby_mul (p := fun i => (List.range (List.replicate k 0).length).getD i 0) (b := fun i => (List.replicate k 0).getD i 0) (n := (List.replicate k 0).length) (x := x) (y := 0) hp hb (by omega) (by omega)
    rw [Wm.zero_fmul (Wm.rby_lt hp hb (by omega))] at h
    refine Eq.trans ?_ h
    congr 1
    funext i
    show (List.replicate k 0).getD i 0 = Wm.fmul 0 ((List.replicate k 0).getD i 0)
    rw [hz]; rfl
  · rw [List.getD_eq_getElem?_getD, List.getElem?_eq_none (by rw [Wm.putL_length]; omega)]; rfl

theorem piece_parts {s : ByteArray} {k n j : Nat} (hs : s.size ≤ 60) (h1 : 1 ≤ k) (hkn : k ≤ n) (hn : n ≤ 10) (hj : j < n) :
    ((splitL s k n).getD j ByteArray.empty).size = 5 + sz s.size k ∧ chkErr ((splitL s k n).getD j ByteArray.empty) (k : Int) = 0 ∧ sby ((splitL s k n).getD j ByteArray.empty) 0 = s.size ∧
      ∀ i, i < sz s.size k → sby ((splitL s k n).getD j ByteArray.empty) (1 + i) = (Wm.putL (dataL s k (sz s.size k) i) n).getD j 0 := by
  have hpl := colL_lt s k (sz s.size k) n j (sz s.size k) hkn (by omega)
  have hcl := colL_length s k (sz s.size k) n j (sz s.size k)
  have hlt := sealL_lt (len := s.size) (by omega) hpl
  rw [splitL_get hj]
  refine ⟨?_, seal_good h1 (by omega) hs hpl hcl, ?_, fun i hi => ?_⟩
  · rw [strN_size, sealL_length, hcl]; omega
  · rw [sby_strN _ hlt (by rw [sealL_length]; omega), sealL_zero]
  · rw [sby_strN _ hlt (by rw [sealL_length, hcl]; omega), sealL_part (by rw [hcl]; exact hi)]
    unfold gd colL
    rw [Wm.getD_map_ 0 (by simpa using hi), Wm.getD_range hi]

/-- Only true pieces are usable: Join answers. -/
theorem join_true {s : ByteArray} {k n : Nat} {L : List ByteArray} (hs : s.size ≤ 60) (h1 : 1 ≤ k) (hkn : k ≤ n) (hn : n ≤ 10) (hL : L.length = n) (hu : ∀ j, j < n → usab L k j = true → L.getD j ByteArray.empty = (splitL s k n).getD j ByteArray.empty) :
    joinErr L (k : Int) = (if Wm.cntR (usab L k) n < k then 9 else 0) ∧ (k ≤ Wm.cntR (usab L k) n → strN (joinText L k) = s) := by
  obtain ⟨m, hm⟩ : ∃ m, m = sz s.size k := ⟨_, rfl⟩
  have hlen : ∀ t, t < n → usab L k t = true → sby (L.getD t ByteArray.empty) 0 = s.size := fun t ht h => by rw [hu t ht h]; exact (piece_parts hs h1 hkn hn ht).2.2.1
  obtain ⟨hmix, hlj⟩ := mixJ_no (n := n) hlen
  by_cases hc : Wm.cntR (usab L k) n < k
  · refine ⟨?_, fun h => by omega⟩
    unfold joinErr
    rw [if_neg (by omega), Int.toNat_natCast, hL, hmix, if_neg (by decide), if_pos hc, if_pos hc]
  · have hsome : ∃ t, t < n ∧ usab L k t = true := by
      have hpos : 0 < (Wm.pk (usab L k) n).length := by rw [Wm.pk_length]; omega
      have hmem := List.getElem_mem hpos
      exact ⟨_, Wm.pk_mem n hmem⟩
    have hlj' : lenJ L k n = (s.size : Int) := by
      have := lenJ_some hsome
      omega
    have hln : lenN L k = s.size := by unfold lenN; rw [hL, hlj', Int.toNat_natCast]
    have row : ∀ i, (0 < m → i < m) → ∃ d : List Nat, d.length = k ∧ Wm.B256 d ∧ (0 < m → d = dataL s k m i) ∧ Wm.mendL (celJ L k m i n) k = Wm.putL d n ∧ Wm.mendN (celJ L k m i n) k n = false := fun i hi => by
      obtain ⟨d, hd1, hd2, hd3, hd4⟩ : ∃ d : List Nat, d.length = k ∧ Wm.B256 d ∧ (0 < m → d = dataL s k m i) ∧ (m = 0 → d = List.replicate k 0) := by
        by_cases hm0 : m = 0
        · exact ⟨List.replicate k 0, by simp, Wm.B256.of fun x hx => by rw [List.eq_of_mem_replicate hx]; omega, fun h => by omega, fun _ => rfl⟩
        · exact ⟨dataL s k m i, dataL_length s k m i, dataL_lt s k m i, fun _ => rfl, fun h => absurd h hm0⟩
      refine ⟨d, hd1, hd2, hd3, ?_⟩
      rw [← hd1]
      refine mend_any hd2 (by omega) (by omega) (celJ_length ..) (celJ_lt _ _ _ _ _) (fun t ht hH => ?_) (by rw [hd1, celJ_cnt]; omega)
      unfold Wm.cH at hH
      unfold Wm.cB
      rw [celJ_get _ _ _ _ ht] at hH ⊢
      rw [hd1] at hH ⊢
      have hut : usab L k t = true := hH
      show (if usab L k t = true ∧ 0 < m then sby (L.getD t ByteArray.empty) (1 + i) else 0) = _
      by_cases hm0 : 0 < m
      · rw [if_pos ⟨hut, hm0⟩, hu t ht hut, hd3 hm0, hm]
        exact (piece_parts hs h1 hkn hn ht).2.2.2 i (by rw [← hm]; exact hi hm0)
      · rw [if_neg (fun h => hm0 h.2), hd4 (by omega), putL_zeros k n t hkn hn]
    have hbad : ∀ x, (0 < m → x ≤ m) → badJ L k m x = false := fun x => by
      induction x with
      | zero => intro _; rfl
      | succ x ih =>
        intro hx
        obtain ⟨d, -, -, -, -, h⟩ := row x (fun h => by have := hx h; omega)
        simp only [badJ, ih (fun h => by have := hx h; omega), hL, h, Bool.or_self]
    refine ⟨?_, fun _ => ?_⟩
    · unfold joinErr
      rw [if_neg (by omega), Int.toNat_natCast, hL, hmix, if_neg (by decide), if_neg hc, if_neg hc, hln, ← hm, hbad _ (fun h => by omega), if_neg (by decide)]
    · have hval : ∀ t, t < s.size → txtJ L k m n t = sby s t := fun t ht => by
        have hm0 : 0 < m := by
          have := len_le s.size h1
          rw [← hm] at this
          exact Nat.pos_of_ne_zero fun h => by rw [h] at this; omega
        have hdm := Nat.div_add_mod t m
        have hml := Nat.mod_lt t hm0
        have hdk : t / m < k := Nat.div_lt_of_lt_mul (by have := len_le s.size h1; rw [← hm] at this; rw [Nat.mul_comm]; omega)
        obtain ⟨d, e1, e2, e3, e4, -⟩ := row (t % m) (fun _ => hml)
        unfold txtJ
        rw [e4, Wm.putL_data e2 (by omega) (by omega) (by omega), e3 hm0]
        unfold dataL
        rw [Wm.getD_map_ 0 (by simpa using hdk), Wm.getD_range hdk, Nat.mul_comm, hdm, if_pos ht]
      have hb : ∀ x ∈ joinText L k, x < 256 := fun x hx => by
        obtain ⟨t, -, rfl⟩ := List.mem_map.1 hx
        rw [hL]
        exact txtP_lt L hkn hn t
      have hjl : (joinText L k).length = s.size := by simp [joinText, hln]
      refine str_ext (by rw [strN_size, hjl]) fun t ht => ?_
      rw [strN_size, hjl] at ht
      rw [sby_strN _ hb (by rw [hjl]; exact ht)]
      unfold gd joinText
      rw [hln, ← hm, hL, Wm.getD_map_ 0 (by simpa using ht), Wm.getD_range ht, hval t ht]

theorem empty_bad {k : Nat} (h1 : 1 ≤ k) (h2 : k ≤ 10) : chkErr ByteArray.empty (k : Int) = 7 := by
  unfold chkErr
  rw [if_neg (by omega), if_pos (by show 0 < 5; omega)]

/-- A piece of which one byte is turned. -/
theorem turned_bad {s t : ByteArray} {k a : Nat} (h1 : 1 ≤ k) (h2 : k ≤ 10) (hg : chkErr s (k : Int) = 0) (hsz : t.size = s.size) (ha : a < s.size) (hne : sby t a ≠ sby s a) (hsame : ∀ i, i < s.size → i ≠ a → sby t i = sby s i) : chkErr t (k : Int) = 8 := by
  obtain ⟨g1, g2, -, -⟩ := (good_iff h1 h2).1 hg
  unfold chkErr
  rw [if_neg (by omega), if_neg (by omega), if_pos]
  intro hso
  have e1 := sumS_lt (sby s) (sby_lt s) (s.size - 4)
  have e2 := sumS_lt (sby t) (sby_lt t) (s.size - 4)
  by_cases c : a < s.size - 4
  · have hd := sum_tells (sby t) (sby s) (sby_lt t) (sby_lt s) a (s.size - 4) hne c (fun i hi hia => hsame i (by omega) hia)
    refine hd ?_
    show sumS (sby t) (s.size - 4) = sumS (sby s) (s.size - 4)
    refine le4_inj e2 e1 ?_
    have hb : ∀ u, u < 4 → gd (le4 (sumS (sby t) (s.size - 4))) u = gd (le4 (sumS (sby s) (s.size - 4))) u := fun u hu => by
      rw [← g2 u hu]
      have := hso u hu
      rw [hsz] at this
      rw [← this]
      exact hsame _ (by omega) (by omega)
    apply List.ext_getElem (by simp [le4])
    intro u hu1 hu2
    have hu : u < 4 := by simpa [le4] using hu1
    have := hb u hu
    unfold gd at this
    rwa [List.getD_eq_getElem?_getD, List.getD_eq_getElem?_getD, List.getElem?_eq_getElem hu1, List.getElem?_eq_getElem hu2] at this
  · obtain ⟨u, hu, hua⟩ : ∃ u, u < 4 ∧ a = s.size - 4 + u := ⟨a - (s.size - 4), by omega, by omega⟩
    have q1 := hso u hu
    have q2 := g2 u hu
    rw [hsz, sumS_same (t := sby s) (fun i hi => hsame i (by omega) (by omega))] at q1
    rw [← q2, ← hua] at q1
    exact hne q1
end Go.Proofs.Ytkebldjepdhioaa

/-
  The laws' own example of pieces; a bit of a set; which of the pieces a set leaves.
-/
set_option linter.unusedVariables false
set_option linter.unusedSimpArgs false
namespace Go.Proofs.Ytkebldjepdhioaa
open Go.RowKit Go.BigFrame

theorem u16_bit (s x : Nat) (hs : s < 65536) : bits .and .u16 ((s : Int) / 2 ^ x) 1 = (((s.testBit x).toNat : Nat) : Int) := by
  have h1 : ((s : Int) / 2 ^ x) = ((s / 2 ^ x : Nat) : Int) := by rw [Int.natCast_ediv, Int.natCast_pow]; rfl
  have h2 : s / 2 ^ x < 2 ^ 16 := Nat.lt_of_le_of_lt (Nat.div_le_self _ _) hs
  rw [h1, Nat.toNat_testBit]
  show IntKind.u16.wrap ((BitVec.ofInt 16 ((s / 2 ^ x : Nat) : Int) &&& BitVec.ofInt 16 ((1 : Nat) : Int)).toNat : Int) = _
  rw [BitVec.toNat_and, ofInt_nat 16 _ h2, ofInt_nat 16 1 (by omega), Nat.and_one_is_mod]
  have : s / 2 ^ x % 2 < 2 := Nat.mod_lt _ (by omega)
  exact IntWalk.u16_in _ (by omega)

/-- The pieces, of the first x of them those that are not in the set struck out. -/
def setP (L : List ByteArray) (s n x : Nat) : List ByteArray := (List.range n).map fun t => if t < x ∧ s.testBit t = false then ByteArray.empty else L.getD t ByteArray.empty
theorem setP_length (L : List ByteArray) (s n x : Nat) : (setP L s n x).length = n := by simp [setP]
theorem setP_zero {L : List ByteArray} {n : Nat} (s : Nat) (h : L.length = n) : setP L s n 0 = L := by
  apply List.ext_getElem (by simp [setP, h])
  intro t h1 h2
  simp [setP, List.getD_eq_getElem?_getD, List.getElem?_eq_getElem h2]
theorem setP_get (L : List ByteArray) (s : Nat) {n x t : Nat} (ht : t < n) : (setP L s n x).getD t ByteArray.empty = if t < x ∧ s.testBit t = false then ByteArray.empty else L.getD t ByteArray.empty := by
  unfold setP
  rw [List.getD_eq_getElem?_getD, List.getElem?_map, List.getElem?_range ht]; rfl
theorem setP_cut (L : List ByteArray) {s n x : Nat} (hx : x < n) (h : s.testBit x = false) : (setP L s n x).set x ByteArray.empty = setP L s n (x + 1) := by
  apply List.ext_getElem (by simp [setP])
  intro t h1 h2
  rw [List.getElem_set]
  simp only [setP, List.getElem_map, List.getElem_range]
  by_cases e : x = t
  · subst e; rw [if_pos rfl, if_pos ⟨Nat.lt_succ_self x, h⟩]
  · rw [if_neg e]
    by_cases c : t < x ∧ s.testBit t = false
    · rw [if_pos c, if_pos ⟨show t < x + 1 by omega, c.2⟩]
    · rw [if_neg c, if_neg (fun d => c ⟨by omega, d.2⟩)]
theorem setP_keep (L : List ByteArray) {s n x : Nat} (h : s.testBit x = true) : setP L s n x = setP L s n (x + 1) := by
  apply List.ext_getElem (by simp [setP])
  intro t h1 h2
  simp only [setP, List.getElem_map, List.getElem_range]
  by_cases c : t < x ∧ s.testBit t = false
  · rw [if_pos c, if_pos ⟨show t < x + 1 by omega, c.2⟩]
  · rw [if_neg c, if_neg (fun d => c ⟨by
      by_cases e : t = x
      · subst e; rw [h] at d; exact absurd d.2 (by decide)
      · omega, d.2⟩)]
theorem cntR_congr {f g : Nat → Bool} : ∀ n, (∀ i, i < n → f i = g i) → Wm.cntR f n = Wm.cntR g n
  | 0, _ => rfl
  | n + 1, h => by simp only [Wm.cntR]; rw [cntR_congr n fun i hi => h i (by omega), h n (by omega)]
/-- What the law PieceBack says, plain. -/
theorem back_plain {s : ByteArray} {k n st : Nat} (hs : s.size ≤ 60) (h1 : 1 ≤ k) (hkn : k ≤ n) (hn : n ≤ 10) :
    joinErr (setP (splitL s k n) st n n) (k : Int) = (if Wm.cntR st.testBit n < k then 9 else 0) ∧ (k ≤ Wm.cntR st.testBit n → strN (joinText (setP (splitL s k n) st n n) k) = s) := by
  have hu : ∀ j, j < n → usab (setP (splitL s k n) st n n) k j = st.testBit j := fun j hj => by
    unfold usab
    rw [setP_get _ _ hj]
    cases hb : st.testBit j with
    | true => rw [if_neg (by simp), (piece_parts hs h1 hkn hn hj).2.1]; rfl
    | false => rw [if_pos ⟨hj, rfl⟩, empty_bad h1 (by omega)]; rfl
  have h := join_true (L := setP (splitL s k n) st n n) hs h1 hkn hn (setP_length ..) (fun j hj hj2 => by
    rw [hu j hj] at hj2
    rw [setP_get _ _ hj, if_neg (by rw [hj2]; simp)])
  rw [cntR_congr n hu] at h
  exact h

set_option maxRecDepth 100000 in
theorem prefix_yes (s p : ByteArray) (w : World) (hs : (s.size : Int) ≤ 9223372036854775807) (h : p.size ≤ s.size) (he : s.extract 0 p.size = p) :
    Calls Try.prog 23 #[.string s, .string p] w fun e w' => e = .returned (.bool true) ∧ w' = w := by
  have hI : (p.size : Int) ≤ (s.size : Int) := by omega
  have C := hide (show Calls Try.prog 46 #[.string s, .string p] w fun e w' => e = .returned (.bool true) ∧ w' = w from by
    go_enter Try.func46, Try.ntmps46
    go_wp2
    go_ret
    exact ⟨rfl, rfl⟩)
  go_enter Try.func23, Try.ntmps23
  go_wp2_with fail
  refine (unhide C).mono ?_
  rintro e w' ⟨rfl, rfl⟩
  go_wp2
  go_ret
  exact ⟨rfl, rfl⟩
theorem sum_ex : 4294967295 ^^^ crcS (sby ⟨#[49, 50, 51, 52, 53, 54, 55, 56, 57]⟩) (ByteArray.mk #[49, 50, 51, 52, 53, 54, 55, 56, 57]).size = 3808858755 := by decide +kernel
theorem split_ex : (splitL ⟨#[97, 98]⟩ 2 3).length = 3 ∧ ((splitL ⟨#[97, 98]⟩ 2 3).getD 0 ByteArray.empty).extract 0 2 = ⟨#[2, 97]⟩ ∧ ((splitL ⟨#[97, 98]⟩ 2 3).getD 1 ByteArray.empty).extract 0 2 = ⟨#[2, 98]⟩ := by
  refine ⟨splitL_length .., ?_, ?_⟩ <;> decide +kernel

set_option maxRecDepth 100000 in
set_option maxHeartbeats 1000000 in
theorem pieces_any (w : World) : Calls Try.prog 6 #[] w fun e w' => e = .returned (.bool true) ∧ Ext w w' := by
  have CS := hide (Split_ok ⟨#[97, 98]⟩ 2 3 w (by decide) (by omega) (by omega) (by omega))
  have CU := hide (fun w => Sum_any ⟨#[49, 50, 51, 52, 53, 54, 55, 56, 57]⟩ (by decide) w)
  rw [sum_ex] at CU
  obtain ⟨e1, e2, e3⟩ := split_ex
  have hp0 := piece_parts (s := ⟨#[97, 98]⟩) (k := 2) (n := 3) (j := 0) (by decide) (by omega) (by omega) (by omega) (by omega)
  have hp1 := piece_parts (s := ⟨#[97, 98]⟩) (k := 2) (n := 3) (j := 1) (by decide) (by omega) (by omega) (by omega) (by omega)
  obtain ⟨L, hL⟩ : ∃ L, L = splitL ⟨#[97, 98]⟩ 2 3 := ⟨_, rfl⟩
  rw [← hL] at CS e1 e2 e3 hp0 hp1
  have hs0 := hp0.1
  have hs1 := hp1.1
  obtain ⟨s0, h0⟩ : ∃ s0, s0 = L.getD 0 ByteArray.empty := ⟨_, rfl⟩
  obtain ⟨s1, h1⟩ : ∃ s1, s1 = L.getD 1 ByteArray.empty := ⟨_, rfl⟩
  rw [← h0] at e2 hs0
  rw [← h1] at e3 hs1
  have hz : sz (ByteArray.mk #[97, 98]).size 2 = 1 := by decide
  rw [hz] at hs0 hs1
  have P0 := hide (fun w => prefix_yes s0 ⟨#[2, 97]⟩ w (by omega) (by show 2 ≤ _; omega) e2)
  have P1 := hide (fun w => prefix_yes s1 ⟨#[2, 98]⟩ w (by omega) (by show 2 ≤ _; omega) e3)
  have H0 := hide h0
  have H1 := hide h1
  have HE := hide e1
  clear hp0 hp1 hs0 hs1 e1 e2 e3 hz hL h0 h1
  go_enter Try.func6, Try.ntmps6
  go_wp2_with fail
  refine (unhide CS).mono ?_
  rintro e w2 ⟨⟨g, rfl, M⟩, E2⟩
  have hc0 := M.cell (k := 0) (by omega)
  have hc1 := M.cell (k := 1) (by omega)
  have k0 : (strs L).getD 0 undef = .string s0 := by
    rw [List.getD_eq_getElem?_getD, strs_get _ _ (by rw [unhide HE]; omega), unhide H0]; rfl
  have k1 : (strs L).getD 1 undef = .string s1 := by
    rw [List.getD_eq_getElem?_getD, strs_get _ _ (by rw [unhide HE]; omega), unhide H1]; rfl
  rw [k0] at hc0
  rw [k1] at hc1
  have HE2 := hide E2
  clear M E2 k0 k1 CS
  go_wp2_with fail
  refine (unhide P0 _).mono ?_
  rintro e w3 ⟨rfl, rfl⟩
  go_wp2_with fail
  refine (unhide P1 _).mono ?_
  rintro e w3 ⟨rfl, rfl⟩
  go_wp2_with fail
  refine (unhide CU _).mono ?_
  rintro e w3 ⟨rfl, rfl⟩
  go_wp2
  go_ret
  exact ⟨rfl, unhide HE2⟩
end Go.Proofs.Ytkebldjepdhioaa

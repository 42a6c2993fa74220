/-
  Tables of bytes: 'Tab': one that can be read; 'Tb': one that the call made, of which each row has a block of its own; 'Bld': one on the way, row by row.
-/
import Derived.Test.YtepkiicekcglhaaMake
set_option linter.unusedVariables false
set_option linter.unusedSimpArgs false
namespace Go.Proofs.Ytepkiicekcglhaa
open Go.RowKit

def upf {α : Type} (f : Nat → α) (j : Nat) (x : α) : Nat → α := fun i => if i = j then x else f i
theorem upf_same {α : Type} (f : Nat → α) (j : Nat) (x : α) : upf f j x j = x := if_pos rfl
theorem upf_ne {α : Type} (f : Nat → α) {i j : Nat} (x : α) (h : i ≠ j) : upf f j x i = f i := if_neg h
/-- A cell of a table turned. -/
def up2 (M : Nat → Nat → Nat) (i j x : Nat) : Nat → Nat → Nat := fun a b => if a = i ∧ b = j then x else M a b
theorem up2_same (M : Nat → Nat → Nat) (i j x : Nat) : up2 M i j x i j = x := if_pos ⟨rfl, rfl⟩
theorem up2_ne (M : Nat → Nat → Nat) {i j a b : Nat} (x : Nat) (h : ¬ (a = i ∧ b = j)) : up2 M i j x a b = M a b := if_neg h
/-- Two places exchanged. -/
def sw2 (p q i : Nat) : Nat := if i = p then q else if i = q then p else i
theorem sw2_lt {p q i n : Nat} (hp : p < n) (hq : q < n) (hi : i < n) : sw2 p q i < n := by
  unfold sw2; split
  · exact hq
  · split
    · exact hp
    · exact hi
theorem sw2_inj {p q i j : Nat} (h : sw2 p q i = sw2 p q j) : i = j := by
  unfold sw2 at h
  split at h <;> split at h <;> (try split at h) <;> (try split at h) <;> omega

structure Tab (w : World) (A : Option Addr) (n : Nat) (ra : Nat → Option Addr) (ln cp : Nat → Nat) (M : Nat → Nat → Nat) : Prop where
  hd : 0 < n → ∃ b o, A = some ⟨b, o, none⟩ ∧ b < w.heap.size ∧ ∀ i, i < n → w.cell? ⟨b, o + i, none⟩ = some (.slice (ra i) (ln i) (cp i))
  row : ∀ i, i < n → 0 < ln i → ∃ b o, ra i = some ⟨b, o, none⟩ ∧ b < w.heap.size ∧ ∀ j, j < ln i → w.cell? ⟨b, o + j, none⟩ = some (.int .u8 (M i j : Int))
  cap : ∀ i, i < n → ln i ≤ cp i ∧ cp i ≤ 9223372036854775807
  lt : ∀ i j, M i j < 256
section
variable {w w' : World} {A : Option Addr} {n : Nat} {ra : Nat → Option Addr} {ln cp : Nat → Nat} {M : Nat → Nat → Nat}
theorem Tab.keep (T : Tab w A n ra ln cp M) (E : Ext w w') : Tab w' A n ra ln cp M where
  hd h := by
    obtain ⟨b, o, hA, hb, hc⟩ := T.hd h
    exact ⟨b, o, hA, Nat.lt_of_lt_of_le hb E.size, fun i hi => (E.cell (p := ⟨b, o + i, none⟩) hb).trans (hc i hi)⟩
  row i hi h := by
    obtain ⟨b, o, hA, hb, hc⟩ := T.row i hi h
    exact ⟨b, o, hA, Nat.lt_of_lt_of_le hb E.size, fun j hj => (E.cell (p := ⟨b, o + j, none⟩) hb).trans (hc j hj)⟩
  cap := T.cap
  lt := T.lt
theorem Tab.rowN (T : Tab w A n ra ln cp M) {i : Nat} (hi : i < n) : Row w (ra i) (ln i) 1 (nats .u8 ((List.range (ln i)).map (M i))) := by
  refine ⟨by simp [nats], fun h => ?_⟩
  obtain ⟨b, o, hA, hb, hc⟩ := T.row i hi h
  refine ⟨b, o, hA, hb, fun j hj => ?_⟩
  rw [Nat.mul_one] at hj
  rw [hc j hj, nats_get _ _ _ (by simpa using hj)]
  simp [hj]
end

/-- A block of so many cells that may be written. -/
def Roomy (w : World) (b c : Nat) : Prop := ∃ (cur : Array Value) (t : TypeId), w.heap[b]? = some (.cells cur t (0, 0)) ∧ c ≤ cur.size
theorem Roomy.lt {w : World} {b c : Nat} (h : Roomy w b c) : b < w.heap.size := by
  obtain ⟨cur, t, h, -⟩ := h
  rcases Nat.lt_or_ge b w.heap.size with h1 | h1
  · exact h1
  · rw [Array.getElem?_eq_none h1] at h; cases h
theorem Roomy.of_block {w w' : World} {b c : Nat} (h : Roomy w b c) (e : w'.heap[b]? = w.heap[b]?) : Roomy w' b c := by
  obtain ⟨cur, t, h, h2⟩ := h
  exact ⟨cur, t, e.trans h, h2⟩
theorem Roomy.keep {w w' : World} {b c : Nat} (h : Roomy w b c) (E : Ext w w') : Roomy w' b c := h.of_block (E.block b h.lt)
theorem Roomy.set {w : World} {b c : Nat} (h : Roomy w b c) (p : Addr) (u : Value) : Roomy (w.setCell p u) b c := by
  obtain ⟨cur, t, h, h2⟩ := h
  by_cases e : p.block = b
  · refine ⟨if p.spot.isSome then cur else cur.setIfInBounds p.off u, t, ?_, ?_⟩
    · simp [World.setCell, Array.getElem?_modify, e, h]
    · split
      · exact h2
      · simpa using h2
  · exact ⟨cur, t, by simp [World.setCell, Array.getElem?_modify, e, h], h2⟩
theorem Roomy.own {w : World} {base n c b : Nat} {e : TypeId} {xs : List Value} (h : w.ownsRow base e 1 (.slice (some ⟨b, 0, none⟩) n c) n xs) : Roomy w b c := by
  rcases h.2 with ⟨h, -⟩ | ⟨q, cp, cur, h, -, hh, -, -, r, -⟩
  · cases h
  · injection h with h1 _ h2
    simp only [Option.some.injEq, Addr.mk.injEq, and_true] at h1
    subst h1; subst h2
    exact ⟨cur, e, hh, by omega⟩

structure Tb (w : World) (base g n : Nat) (bl cp : Nat → Nat) (l : Nat) (M : Nat → Nat → Nat) : Prop where
  g_lo : base ≤ g
  g_hi : g < w.heap.size
  hd : ∀ i, i < n → w.cell? ⟨g, i, none⟩ = some (.slice (some ⟨bl i, 0, none⟩) l (cp i))
  hd_f : ∀ i, i < n → w.frozen? ⟨g, i, none⟩ = false
  b_lo : ∀ i, i < n → base ≤ bl i
  b_hi : ∀ i, i < n → bl i < w.heap.size
  b_g : ∀ i, i < n → bl i ≠ g
  inj : ∀ i j, i < n → j < n → bl i = bl j → i = j
  cap : ∀ i, i < n → l ≤ cp i ∧ cp i ≤ 9223372036854775807
  cell : ∀ i j, i < n → j < l → w.cell? ⟨bl i, j, none⟩ = some (.int .u8 (M i j : Int))
  cell_f : ∀ i j, i < n → j < l → w.frozen? ⟨bl i, j, none⟩ = false
  lt : ∀ i j, M i j < 256
  room : ∀ i, i < n → Roomy w (bl i) (cp i)
section
variable {w w' : World} {base g n : Nat} {bl cp : Nat → Nat} {l : Nat} {M : Nat → Nat → Nat}
theorem Tb.keep (T : Tb w base g n bl cp l M) (E : Ext w w') : Tb w' base g n bl cp l M :=
  { T with
    g_hi := Nat.lt_of_lt_of_le T.g_hi E.size
    hd := fun i hi => (E.cell (p := ⟨g, i, none⟩) T.g_hi).trans (T.hd i hi)
    hd_f := fun i hi => (E.frozen (p := ⟨g, i, none⟩) T.g_hi).trans (T.hd_f i hi)
    b_hi := fun i hi => Nat.lt_of_lt_of_le (T.b_hi i hi) E.size
    cell := fun i j hi hj => (E.cell (p := ⟨bl i, j, none⟩) (T.b_hi i hi)).trans (T.cell i j hi hj)
    cell_f := fun i j hi hj => (E.frozen (p := ⟨bl i, j, none⟩) (T.b_hi i hi)).trans (T.cell_f i j hi hj)
    room := fun i hi => (T.room i hi).keep E }
theorem Tb.mono {base' : Nat} (T : Tb w base g n bl cp l M) (h : base' ≤ base) : Tb w base' g n bl cp l M :=
  { T with g_lo := Nat.le_trans h T.g_lo, b_lo := fun i hi => Nat.le_trans h (T.b_lo i hi) }
theorem Tb.tab (T : Tb w base g n bl cp l M) : Tab w (some ⟨g, 0, none⟩) n (fun i => some ⟨bl i, 0, none⟩) (fun _ => l) cp M where
  hd _ := ⟨g, 0, rfl, T.g_hi, fun i hi => by rw [Nat.zero_add]; exact T.hd i hi⟩
  row i hi _ := ⟨bl i, 0, rfl, T.b_hi i hi, fun j hj => by rw [Nat.zero_add]; exact T.cell i j hi hj⟩
  cap := T.cap
  lt := T.lt
/-- A cell is written. -/
theorem Tb.set (T : Tb w base g n bl cp l M) {i j x : Nat} (hi : i < n) (hj : j < l) (hx : x < 256) : Tb (w.setCell ⟨bl i, j, none⟩ (.int .u8 (x : Int))) base g n bl cp l (up2 M i j x) :=
  { T with
    g_hi := by simpa using T.g_hi
    hd := fun a ha => (World.cell?_setCell_other _ _ _ _ (by intro e; injection e with e; exact T.b_g i hi e)).trans (T.hd a ha)
    hd_f := fun a ha => by rw [World.frozen?_setCell]; exact T.hd_f a ha
    b_hi := fun a ha => by simpa using T.b_hi a ha
    cell := fun a b ha hb => by
      by_cases c : a = i ∧ b = j
      · obtain ⟨rfl, rfl⟩ := c
        rw [up2_same]
        exact World.cell?_setCell_same' _ _ _ (by rw [T.cell a b ha hb]; rfl)
      · rw [up2_ne _ _ c, World.cell?_setCell_other _ _ _ _ (by
          intro e; injection e with e1 e2
          exact c ⟨(T.inj i a hi ha e1).symm, e2.symm⟩)]
        exact T.cell a b ha hb
    cell_f := fun a b ha hb => by rw [World.frozen?_setCell]; exact T.cell_f a b ha hb
    lt := fun a b => by
      unfold up2
      split
      · exact hx
      · exact T.lt a b
    room := fun a ha => (T.room a ha).set _ _ }
/-- Two rows' headers are exchanged. -/
theorem Tb.swap (T : Tb w base g n bl cp l M) {p q : Nat} (hp : p < n) (hq : q < n) :
    Tb ((w.setCell ⟨g, p, none⟩ (.slice (some ⟨bl q, 0, none⟩) l (cp q))).setCell ⟨g, q, none⟩ (.slice (some ⟨bl p, 0, none⟩) l (cp p))) base g n (fun i => bl (sw2 p q i)) (fun i => cp (sw2 p q i)) l (fun i => M (sw2 p q i)) where
  g_lo := T.g_lo
  g_hi := by simpa using T.g_hi
  hd i hi := by
    unfold sw2
    by_cases b : q = i
    · subst b
      rw [World.cell?_setCell_same' _ _ _ (by
        by_cases a : p = q
        · subst a; rw [World.cell?_setCell_same' _ _ _ (by rw [T.hd p hp]; rfl)]; rfl
        · rw [World.cell?_setCell_other _ _ _ _ (by intro e; injection e with _ e; exact a e), T.hd q hq]; rfl)]
      by_cases a : q = p
      · subst a; rw [if_pos rfl]
      · rw [if_neg a, if_pos rfl]
    · rw [World.cell?_setCell_other _ _ _ _ (by intro e; injection e with _ e; exact b e)]
      by_cases a : p = i
      · subst a
        rw [World.cell?_setCell_same' _ _ _ (by rw [T.hd p hp]; rfl), if_pos rfl]
      · rw [World.cell?_setCell_other _ _ _ _ (by intro e; injection e with _ e; exact a e), if_neg (fun e => a e.symm), if_neg (fun e => b e.symm)]
        exact T.hd i hi
  hd_f i hi := by rw [World.frozen?_setCell, World.frozen?_setCell]; exact T.hd_f i hi
  b_lo i hi := T.b_lo _ (sw2_lt hp hq hi)
  b_hi i hi := by simpa using T.b_hi _ (sw2_lt hp hq hi)
  b_g i hi := T.b_g _ (sw2_lt hp hq hi)
  inj i j hi hj e := sw2_inj (T.inj _ _ (sw2_lt hp hq hi) (sw2_lt hp hq hj) e)
  cap i hi := T.cap _ (sw2_lt hp hq hi)
  cell i j hi hj := by
    have h := T.b_g _ (sw2_lt hp hq hi)
    rw [World.cell?_setCell_other _ _ _ _ (by intro e; injection e with e; exact h e.symm), World.cell?_setCell_other _ _ _ _ (by intro e; injection e with e; exact h e.symm)]
    exact T.cell _ j (sw2_lt hp hq hi) hj
  cell_f i j hi hj := by rw [World.frozen?_setCell, World.frozen?_setCell]; exact T.cell_f _ j (sw2_lt hp hq hi) hj
  lt i j := T.lt _ j
  room i hi := ((T.room _ (sw2_lt hp hq hi)).set _ _).set _ _
/-- Other blocks are written. -/
theorem Tb.other (T : Tb w base g n bl cp l M) {p : Addr} (u : Value) (hg : p.block ≠ g) (hb : ∀ i, i < n → p.block ≠ bl i) : Tb (w.setCell p u) base g n bl cp l M :=
  { T with
    g_hi := by simpa using T.g_hi
    hd := fun a ha => (World.cell?_setCell_other _ _ _ _ (by intro e; exact hg (by rw [e]))).trans (T.hd a ha)
    hd_f := fun a ha => by rw [World.frozen?_setCell]; exact T.hd_f a ha
    b_hi := fun a ha => by simpa using T.b_hi a ha
    cell := fun a b ha hc => (World.cell?_setCell_other _ _ _ _ (by intro e; exact hb a ha (by rw [e]))).trans (T.cell a b ha hc)
    cell_f := fun a b ha hc => by rw [World.frozen?_setCell]; exact T.cell_f a b ha hc
    room := fun a ha => (T.room a ha).set _ _ }
/-- What other blocks' growth leaves. -/
theorem Tb.grown (T : Tb w base g n bl cp l M) {row : Option Nat} (h : w.grownBy w' row) (hg : row ≠ some g) (hb : ∀ i, i < n → row ≠ some (bl i)) : Tb w' base g n bl cp l M :=
  { T with
    g_hi := Nat.lt_of_lt_of_le T.g_hi h.size
    hd := fun a ha => (World.cell?_of_block (a := ⟨g, a, none⟩) (h.block g T.g_hi fun e => hg e.symm)).trans (T.hd a ha)
    hd_f := fun a ha => by
      have := T.hd_f a ha
      unfold World.frozen? at this ⊢
      rw [h.block g T.g_hi fun e => hg e.symm]; exact this
    b_hi := fun a ha => Nat.lt_of_lt_of_le (T.b_hi a ha) h.size
    cell := fun a b ha hc => (World.cell?_of_block (a := ⟨bl a, b, none⟩) (h.block _ (T.b_hi a ha) fun e => hb a ha e.symm)).trans (T.cell a b ha hc)
    cell_f := fun a b ha hc => by
      have := T.cell_f a b ha hc
      unfold World.frozen? at this ⊢
      rw [h.block _ (T.b_hi a ha) fun e => hb a ha e.symm]; exact this
    room := fun a ha => (T.room a ha).of_block (h.block _ (T.b_hi a ha) fun e => hb a ha e.symm) }
theorem Tb.congr (T : Tb w base g n bl cp l M) {M' : Nat → Nat → Nat} (h : ∀ i j, i < n → j < l → M i j = M' i j) (hlt : ∀ i j, M' i j < 256) : Tb w base g n bl cp l M' :=
  { T with
    cell := fun i j hi hj => by rw [← h i j hi hj]; exact T.cell i j hi hj
    lt := hlt }
end

/-- Headers of rows. -/
def hds (bl cp : Nat → Nat) (l k : Nat) : List Value := (List.range k).map fun i => .slice (some ⟨bl i, 0, none⟩) l (cp i)
theorem hds_length (bl cp : Nat → Nat) (l k : Nat) : (hds bl cp l k).length = k := by simp [hds]
theorem hds_get (bl cp : Nat → Nat) (l : Nat) {k i : Nat} (h : i < k) : (hds bl cp l k)[i]? = some (.slice (some ⟨bl i, 0, none⟩) l (cp i)) := by simp [hds, h]
theorem hds_succ (bl cp : Nat → Nat) (l k b c : Nat) : hds (upf bl k b) (upf cp k c) l (k + 1) = hds bl cp l k ++ [.slice (some ⟨b, 0, none⟩) l c] := by
  unfold hds
  rw [List.range_succ, List.map_append]
  congr 1
  · exact List.map_congr_left fun i hi => by
      have := List.mem_range.1 hi
      rw [upf_ne _ _ (by omega), upf_ne _ _ (by omega)]
  · simp [upf_same]

structure Bld (e : TypeId) (w0 W : World) (v : Value) (k : Nat) (bl cp : Nat → Nat) (l : Nat) (M : Nat → Nat → Nat) : Prop where
  ext : Ext w0 W
  own : W.ownsRow w0.heap.size e 1 v k (hds bl cp l k)
  b_lo : ∀ i, i < k → w0.heap.size ≤ bl i
  b_hi : ∀ i, i < k → bl i < W.heap.size
  off : ∀ i, i < k → v.ownBlock ≠ some (bl i)
  inj : ∀ i j, i < k → j < k → bl i = bl j → i = j
  cap : ∀ i, i < k → l ≤ cp i ∧ cp i ≤ 9223372036854775807
  cell : ∀ i j, i < k → j < l → W.cell? ⟨bl i, j, none⟩ = some (.int .u8 (M i j : Int))
  cell_f : ∀ i j, i < k → j < l → W.frozen? ⟨bl i, j, none⟩ = false
  room : ∀ i, i < k → Roomy W (bl i) (cp i)
section
variable {e : TypeId} {w0 W W1 W2 : World} {v : Value} {k : Nat} {bl cp : Nat → Nat} {l : Nat} {M : Nat → Nat → Nat}
theorem Bld.nil (e : TypeId) (w0 : World) (bl cp : Nat → Nat) (l : Nat) (M : Nat → Nat → Nat) : Bld e w0 w0 (.slice none 0 0) 0 bl cp l M where
  ext := Ext.refl _
  own := World.ownsRow_nil _ _ _ _
  b_lo _ h := absurd h (by omega)
  b_hi _ h := absurd h (by omega)
  off _ h := absurd h (by omega)
  inj _ _ h := absurd h (by omega)
  cap _ h := absurd h (by omega)
  cell _ _ h := absurd h (by omega)
  cell_f _ _ h := absurd h (by omega)
  room _ h := absurd h (by omega)
theorem Bld.keep (T : Bld e w0 W v k bl cp l M) (E : Ext W W1) : Bld e w0 W1 v k bl cp l M :=
  { T with
    ext := T.ext.trans E
    own := row_ext T.own E
    b_hi := fun i hi => Nat.lt_of_lt_of_le (T.b_hi i hi) E.size
    cell := fun i j hi hj => (E.cell (p := ⟨bl i, j, none⟩) (T.b_hi i hi)).trans (T.cell i j hi hj)
    cell_f := fun i j hi hj => (E.frozen (p := ⟨bl i, j, none⟩) (T.b_hi i hi)).trans (T.cell_f i j hi hj)
    room := fun i hi => (T.room i hi).keep E }
/-- One row more: made behind W, its header appended. -/
theorem Bld.add (T : Bld e w0 W v k bl cp l M) (E : Ext W W1) {b c : Nat} {f : Nat → Nat} (hb : W.heap.size ≤ b) (hb1 : b < W1.heap.size) (hc : l ≤ c ∧ c ≤ 9223372036854775807)
    (hcell : ∀ j, j < l → W1.cell? ⟨b, j, none⟩ = some (.int .u8 (f j : Int)) ∧ W1.frozen? ⟨b, j, none⟩ = false) (hroom : Roomy W1 b c) {v' : Value}
    (own : W2.ownsRow w0.heap.size e 1 v' (k + 1) (hds bl cp l k ++ [.slice (some ⟨b, 0, none⟩) l c])) (hg : W1.grownBy W2 v.ownBlock) (hat : v'.ownBlock = v.ownBlock ∨ ∃ q, v'.ownBlock = some q ∧ W1.heap.size ≤ q) :
    Bld e w0 W2 v' (k + 1) (upf bl k b) (upf cp k c) l (upf M k f) := by
  have T1 := T.keep E
  have hE : Ext w0 W2 := T1.ext.grown hg fun q hq => (T1.own.lt q hq).1
  have hvb : v.ownBlock ≠ some b := fun h => by have := (T.own.lt b h).2; omega
  have keepc : ∀ x, x < W1.heap.size → v.ownBlock ≠ some x → W2.heap[x]? = W1.heap[x]? := fun x hx hne => hg.block x hx fun e => hne e.symm
  have hs := hg.size
  have hup : ∀ i, i < k + 1 → upf bl k b i < W1.heap.size ∧ v.ownBlock ≠ some (upf bl k b i) := fun i hi => by
    by_cases c : i = k
    · subst c; rw [upf_same]; exact ⟨hb1, hvb⟩
    · rw [upf_ne _ _ c]; exact ⟨T1.b_hi i (by omega), T1.off i (by omega)⟩
  refine ⟨hE, by rw [hds_succ]; exact own, fun i hi => ?_, fun i hi => ?_, fun i hi => ?_, fun i j hi hj h => ?_, fun i hi => ?_, fun i j hi hj => ?_, fun i j hi hj => ?_, fun i hi => ?_⟩
  · by_cases c : i = k
    · subst c; rw [upf_same]; have := T.ext.size; omega
    · rw [upf_ne _ _ c]; exact T.b_lo i (by omega)
  · have := (hup i hi).1; omega
  · rcases hat with h | ⟨q, h, hq⟩
    · rw [h]; exact (hup i hi).2
    · rw [h]; intro e; injection e with e; have := (hup i hi).1; omega
  · by_cases c : i = k <;> by_cases d : j = k
    · omega
    · rw [c, upf_same, upf_ne _ _ d] at h; have := T.b_hi j (by omega); omega
    · rw [d, upf_same, upf_ne _ _ c] at h; have := T.b_hi i (by omega); omega
    · rw [upf_ne _ _ c, upf_ne _ _ d] at h; exact T.inj i j (by omega) (by omega) h
  · by_cases d : i = k
    · subst d; rw [upf_same]; exact hc
    · rw [upf_ne _ _ d]; exact T.cap i (by omega)
  · rw [World.cell?_of_block (a := ⟨upf bl k b i, j, none⟩) (keepc _ (hup i hi).1 (hup i hi).2)]
    by_cases d : i = k
    · subst d; rw [upf_same, upf_same]; exact (hcell j hj).1
    · rw [upf_ne _ _ d, upf_ne _ _ d]; exact T1.cell i j (by omega) hj
  · have : W2.frozen? ⟨upf bl k b i, j, none⟩ = W1.frozen? ⟨upf bl k b i, j, none⟩ := by
      unfold World.frozen?; rw [keepc _ (hup i hi).1 (hup i hi).2]
    rw [this]
    by_cases d : i = k
    · subst d; rw [upf_same]; exact (hcell j hj).2
    · rw [upf_ne _ _ d]; exact T1.cell_f i j (by omega) hj
  · refine Roomy.of_block (w := W1) ?_ (keepc _ (hup i hi).1 (hup i hi).2)
    by_cases d : i = k
    · subst d; rw [upf_same, upf_same]; exact hroom
    · rw [upf_ne _ _ d, upf_ne _ _ d]; exact T1.room i (by omega)
/-- All rows are there. -/
theorem Bld.done (T : Bld e w0 W v k bl cp l M) (hk : 0 < k) (hlt : ∀ i j, M i j < 256) : ∃ g c, v = .slice (some ⟨g, 0, none⟩) k c ∧ k ≤ c ∧ Tb W w0.heap.size g k bl cp l M := by
  have hl := T.own.lt
  obtain ⟨h1, h2⟩ := T.own
  rcases h2 with ⟨-, h2⟩ | ⟨g, cap, cur, rfl, hg, hh, hnc, hcm, r⟩
  · omega
  · refine ⟨g, cap, rfl, hnc, ?_⟩
    have hgh := (hl g rfl).2
    exact {
      g_lo := hg
      g_hi := hgh
      hd := fun i hi => by
        have := T.own.cellAt (g := g) (n := k) i (by omega)
        rw [this, hds_get _ _ _ hi]
      hd_f := fun i hi => by simp [World.frozen?, hh]
      b_lo := T.b_lo
      b_hi := T.b_hi
      b_g := fun i hi h => T.off i hi (by rw [h]; rfl)
      inj := T.inj
      cap := T.cap
      cell := T.cell
      cell_f := T.cell_f
      lt := hlt
      room := T.room }
end
end Go.Proofs.Ytepkiicekcglhaa

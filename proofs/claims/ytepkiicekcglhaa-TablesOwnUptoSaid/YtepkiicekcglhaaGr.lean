/-
  Tables whose headers are made at once and whose rows are appended to, one after the other: 'Gr': k rows are done, the next one is v.
-/
import Derived.Test.YtepkiicekcglhaaTab
import Derived.Test.YtepkiicekcglhaaRack
set_option linter.unusedVariables false
set_option linter.unusedSimpArgs false
namespace Go.Proofs.Ytepkiicekcglhaa
open Go.RowKit

structure Gr (e : TypeId) (w0 W : World) (g n k l : Nat) (bl cp : Nat → Nat) (M : Nat → Nat → Nat) (v : Value) (m : Nat) (xs : List Nat) : Prop where
  ext : Ext w0 W
  g_lo : w0.heap.size ≤ g
  g_hi : g < W.heap.size
  hd : ∀ i, i < k → W.cell? ⟨g, i, none⟩ = some (.slice (some ⟨bl i, 0, none⟩) l (cp i))
  cur : k < n → W.cell? ⟨g, k, none⟩ = some v
  rest : ∀ i, k < i → i < n → W.cell? ⟨g, i, none⟩ = some (.slice none 0 0)
  hd_f : ∀ i, i < n → W.frozen? ⟨g, i, none⟩ = false
  own : W.ownsRow w0.heap.size e 1 v m (nats .u8 xs)
  v_g : v.ownBlock ≠ some g
  v_b : ∀ i, i < k → v.ownBlock ≠ some (bl i)
  b_lo : ∀ i, i < k → w0.heap.size ≤ bl i
  b_hi : ∀ i, i < k → bl i < W.heap.size
  b_g : ∀ i, i < k → bl i ≠ g
  inj : ∀ i j, i < k → j < k → bl i = bl j → i = j
  cap : ∀ i, i < k → l ≤ cp i ∧ cp i ≤ 9223372036854775807
  cell : ∀ i j, i < k → j < l → W.cell? ⟨bl i, j, none⟩ = some (.int .u8 (M i j : Int))
  cell_f : ∀ i j, i < k → j < l → W.frozen? ⟨bl i, j, none⟩ = false
  room : ∀ i, i < k → Roomy W (bl i) (cp i)
section
variable {e : TypeId} {w0 W W' : World} {g n k l m : Nat} {bl cp : Nat → Nat} {M : Nat → Nat → Nat} {v : Value} {xs : List Nat}
theorem Gr.keep (T : Gr e w0 W g n k l bl cp M v m xs) (E : Ext W W') : Gr e w0 W' g n k l bl cp M v m xs :=
  { T with
    ext := T.ext.trans E
    g_hi := Nat.lt_of_lt_of_le T.g_hi E.size
    hd := fun i hi => (E.cell (p := ⟨g, i, none⟩) T.g_hi).trans (T.hd i hi)
    cur := fun h => (E.cell (p := ⟨g, k, none⟩) T.g_hi).trans (T.cur h)
    rest := fun i hi h => (E.cell (p := ⟨g, i, none⟩) T.g_hi).trans (T.rest i hi h)
    hd_f := fun i hi => (E.frozen (p := ⟨g, i, none⟩) T.g_hi).trans (T.hd_f i hi)
    own := row_ext T.own E
    b_hi := fun i hi => Nat.lt_of_lt_of_le (T.b_hi i hi) E.size
    cell := fun i j hi hj => (E.cell (p := ⟨bl i, j, none⟩) (T.b_hi i hi)).trans (T.cell i j hi hj)
    cell_f := fun i j hi hj => (E.frozen (p := ⟨bl i, j, none⟩) (T.b_hi i hi)).trans (T.cell_f i j hi hj)
    room := fun i hi => (T.room i hi).keep E }
/-- Just made. -/
theorem Gr.start (e eh : TypeId) (w : World) (n l : Nat) (bl cp : Nat → Nat) (M : Nat → Nat → Nat) (hn : n ≤ 1000) : Gr e w (w.alloc (.cells (madeCells #[.slice none 0 0] n) eh)) w.heap.size n 0 l bl cp M (.slice none 0 0) 0 [] := by
  have MM := Made.make (w := w) (base := w.heap.size) (e := eh) (.slice none 0 0) n (Nat.le_refl _) (by omega)
  have hc : ∀ i, i < n → (w.alloc (.cells (madeCells #[.slice none 0 0] n) eh)).cell? ⟨w.heap.size, i, none⟩ = some (.slice none 0 0) := fun i hi => by
    rw [MM.cell hi, List.getD_eq_getElem?_getD]; simp [hi]
  exact {
    ext := (Ext.refl w).alloc _
    g_lo := Nat.le_refl _
    g_hi := by simp
    hd := fun i h => absurd h (by omega)
    cur := fun h => hc 0 h
    rest := fun i _ h => hc i h
    hd_f := fun i _ => MM.frozen i
    own := World.ownsRow_nil _ _ _ _
    v_g := fun h => by cases h
    v_b := fun i h => absurd h (by omega)
    b_lo := fun i h => absurd h (by omega)
    b_hi := fun i h => absurd h (by omega)
    b_g := fun i h => absurd h (by omega)
    inj := fun i _ h => absurd h (by omega)
    cap := fun i h => absurd h (by omega)
    cell := fun i _ h => absurd h (by omega)
    cell_f := fun i _ h => absurd h (by omega)
    room := fun i h => absurd h (by omega) }
theorem cell_off (w : World) {g k b o : Nat} (u : Value) (h : b ≠ g) : (w.setCell ⟨g, k, none⟩ u).cell? ⟨b, o, none⟩ = w.cell? ⟨b, o, none⟩ := World.cell?_setCell_other _ _ _ _ (by intro e; injection e with e; exact h e.symm)
theorem cell_far (w : World) {g k i : Nat} (u : Value) (h : i ≠ k) : (w.setCell ⟨g, k, none⟩ u).cell? ⟨g, i, none⟩ = w.cell? ⟨g, i, none⟩ := World.cell?_setCell_other _ _ _ _ (by intro e; injection e with _ e; exact h e.symm)
theorem own_off {w : World} {base e sz n g k : Nat} {v : Value} {xs : List Value} (h : w.ownsRow base e sz v n xs) (hb : v.ownBlock ≠ some g) (u : Value) : (w.setCell ⟨g, k, none⟩ u).ownsRow base e sz v n xs := by
  obtain ⟨h1, h2⟩ := h
  refine ⟨h1, ?_⟩
  rcases h2 with h2 | ⟨q, cap, cur, rfl, hq, hh, r⟩
  · exact .inl h2
  · refine .inr ⟨q, cap, cur, rfl, hq, ?_, r⟩
    have hqb : ¬ g = q := fun e => hb (by rw [e]; rfl)
    rw [← hh]
    simp only [World.setCell]
    rw [Array.getElem?_modify, if_neg hqb]
/-- The current row has grown, and its header is stored. -/
theorem Gr.grow (T : Gr e w0 W g n k l bl cp M v m xs) (hk : k < n) {v' : Value} {m' : Nat} {ys : List Nat} (hown : W'.ownsRow w0.heap.size e 1 v' m' (nats .u8 ys)) (hg : W.grownBy W' v.ownBlock)
    (hat : v'.ownBlock = v.ownBlock ∨ ∃ q, v'.ownBlock = some q ∧ W.heap.size ≤ q) : Gr e w0 (W'.setCell ⟨g, k, none⟩ v') g n k l bl cp M v' m' ys := by
  have hE : Ext w0 W' := T.ext.grown hg fun q hq => (T.own.lt q hq).1
  have hs := hg.size
  have kg : W'.heap[g]? = W.heap[g]? := hg.block g T.g_hi fun e => T.v_g e.symm
  have kb : ∀ i, i < k → W'.heap[bl i]? = W.heap[bl i]? := fun i hi => hg.block _ (T.b_hi i hi) fun e => T.v_b i hi e.symm
  have cg : ∀ i, W'.cell? ⟨g, i, none⟩ = W.cell? ⟨g, i, none⟩ := fun i => World.cell?_of_block (a := ⟨g, i, none⟩) kg
  have fg : ∀ i, W'.frozen? ⟨g, i, none⟩ = W.frozen? ⟨g, i, none⟩ := fun i => by unfold World.frozen?; rw [kg]
  have hv'g : v'.ownBlock ≠ some g := by
    rcases hat with h | ⟨q, h, hq⟩
    · rw [h]; exact T.v_g
    · rw [h]; intro e; injection e with e; have := T.g_hi; omega
  exact {
    ext := hE.setCell T.g_lo _
    g_lo := T.g_lo
    g_hi := by have := T.g_hi; simp; omega
    hd := fun i hi => by rw [cell_far _ _ (by omega), cg]; exact T.hd i hi
    cur := fun _ => World.cell?_setCell_same' _ _ _ (by rw [cg, T.cur hk]; rfl)
    rest := fun i hi h => by rw [cell_far _ _ (by omega), cg]; exact T.rest i hi h
    hd_f := fun i hi => by rw [World.frozen?_setCell, fg]; exact T.hd_f i hi
    own := own_off hown hv'g _
    v_g := hv'g
    v_b := fun i hi => by
      rcases hat with h | ⟨q, h, hq⟩
      · rw [h]; exact T.v_b i hi
      · rw [h]; intro e; injection e with e; have := T.b_hi i hi; omega
    b_lo := T.b_lo
    b_hi := fun i hi => by have := T.b_hi i hi; simp; omega
    b_g := T.b_g
    inj := T.inj
    cap := T.cap
    cell := fun i j hi hj => by
      rw [cell_off _ _ (T.b_g i hi), World.cell?_of_block (a := ⟨bl i, j, none⟩) (kb i hi)]
      exact T.cell i j hi hj
    cell_f := fun i j hi hj => by
      rw [World.frozen?_setCell]
      have : W'.frozen? ⟨bl i, j, none⟩ = W.frozen? ⟨bl i, j, none⟩ := by unfold World.frozen?; rw [kb i hi]
      rw [this]; exact T.cell_f i j hi hj
    room := fun i hi => ((T.room i hi).of_block (kb i hi)).set _ _ }
/-- Where the current header lies, behind the growth of its slice. -/
theorem Gr.place (T : Gr e w0 W g n k l bl cp M v m xs) (hk : k < n) (hg : W.grownBy W' v.ownBlock) : W'.cell? ⟨g, k, none⟩ = some v ∧ W'.frozen? ⟨g, k, none⟩ = false := by
  have kg : W'.heap[g]? = W.heap[g]? := hg.block g T.g_hi fun e => T.v_g e.symm
  refine ⟨(World.cell?_of_block (a := ⟨g, k, none⟩) kg).trans (T.cur hk), ?_⟩
  have := T.hd_f k hk
  unfold World.frozen? at this ⊢
  rw [kg]; exact this
/-- The current row is done: clipped. -/
theorem Gr.close {A : Option Addr} {c : Nat} (T : Gr e w0 W g n k l bl cp M (.slice A m c) m xs) (hk : k < n) (hl : 0 < m) (hml : m = l) {f : Nat → Nat} (hf : ∀ j, j < l → xs.getD j 0 = f j) :
    ∃ b, A = some ⟨b, 0, none⟩ ∧ Gr e w0 (W.setCell ⟨g, k, none⟩ (.slice A m m)) g n (k + 1) l (upf bl k b) (upf cp k l) (upf M k f) (.slice none 0 0) 0 [] := by
  subst hml
  obtain ⟨b, cap, hv, hb1, hb2, hlc, hcm, hcell⟩ := row_open T.own hl
  injection hv with hA _ hc
  subst hA; subst hc
  have hlen : xs.length = m := by have := T.own.1; rw [nats_length] at this; omega
  have hfz : ∀ j, W.frozen? ⟨b, j, none⟩ = false := fun j => by
    rcases T.own.2 with ⟨h, -⟩ | ⟨q, cp, cur, h, -, hh, -⟩
    · cases h
    · injection h with h
      simp only [Option.some.injEq, Addr.mk.injEq, and_true] at h
      subst h
      simp [World.frozen?, hh]
  have hbg : b ≠ g := fun e => T.v_g (by rw [← e]; rfl)
  have hbb : ∀ i, i < k → b ≠ bl i := fun i hi e => T.v_b i hi (by rw [← e]; rfl)
  refine ⟨b, rfl, ?_⟩
  exact {
    ext := T.ext.setCell T.g_lo _
    g_lo := T.g_lo
    g_hi := by simpa using T.g_hi
    hd := fun i hi => by
      by_cases d : i = k
      · subst d
        rw [upf_same, upf_same]
        exact World.cell?_setCell_same' _ _ _ (by rw [T.cur hk]; rfl)
      · rw [upf_ne _ _ d, upf_ne _ _ d, cell_far _ _ d]; exact T.hd i (by omega)
    cur := fun h => by rw [cell_far _ _ (by omega)]; exact T.rest (k + 1) (by omega) h
    rest := fun i hi h => by rw [cell_far _ _ (by omega)]; exact T.rest i (by omega) h
    hd_f := fun i hi => by rw [World.frozen?_setCell]; exact T.hd_f i hi
    own := World.ownsRow_nil _ _ _ _
    v_g := fun h => by cases h
    v_b := fun i _ h => by cases h
    b_lo := fun i hi => by
      by_cases d : i = k
      · subst d; rw [upf_same]; exact hb1
      · rw [upf_ne _ _ d]; exact T.b_lo i (by omega)
    b_hi := fun i hi => by
      by_cases d : i = k
      · subst d; rw [upf_same]; simpa using hb2
      · rw [upf_ne _ _ d]; simpa using T.b_hi i (by omega)
    b_g := fun i hi => by
      by_cases d : i = k
      · subst d; rw [upf_same]; exact hbg
      · rw [upf_ne _ _ d]; exact T.b_g i (by omega)
    inj := fun i j hi hj h => by
      by_cases d : i = k <;> by_cases d2 : j = k
      · omega
      · rw [d, upf_same, upf_ne _ _ d2] at h; exact absurd h (hbb j (by omega))
      · rw [d2, upf_same, upf_ne _ _ d] at h; exact absurd h.symm (hbb i (by omega))
      · rw [upf_ne _ _ d, upf_ne _ _ d2] at h; exact T.inj i j (by omega) (by omega) h
    cap := fun i hi => by
      by_cases d : i = k
      · subst d; rw [upf_same]; exact ⟨Nat.le_refl _, by unfold maxLen at hcm; omega⟩
      · rw [upf_ne _ _ d]; exact T.cap i (by omega)
    cell := fun i j hi hj => by
      by_cases d : i = k
      · subst d
        rw [upf_same, upf_same, cell_off _ _ hbg, hcell j (by omega), nats_get _ _ _ (by omega), hf j hj]
      · rw [upf_ne _ _ d, upf_ne _ _ d, cell_off _ _ (T.b_g i (by omega))]; exact T.cell i j (by omega) hj
    cell_f := fun i j hi hj => by
      rw [World.frozen?_setCell]
      by_cases d : i = k
      · subst d; rw [upf_same]; exact hfz j
      · rw [upf_ne _ _ d]; exact T.cell_f i j (by omega) hj
    room := fun i hi => by
      by_cases d : i = k
      · subst d; rw [upf_same, upf_same]
        obtain ⟨cur, t, h1, h2⟩ := (Roomy.own T.own).set ⟨g, i, none⟩ (.slice (some ⟨b, 0, none⟩) m m)
        exact ⟨cur, t, h1, by omega⟩
      · rw [upf_ne _ _ d, upf_ne _ _ d]; exact (T.room i (by omega)).set _ _ }
theorem Gr.congr (T : Gr e w0 W g n k l bl cp M v m xs) {M' : Nat → Nat → Nat} (h : ∀ i j, i < k → j < l → M i j = M' i j) : Gr e w0 W g n k l bl cp M' v m xs :=
  { T with cell := fun i j hi hj => by rw [← h i j hi hj]; exact T.cell i j hi hj }
/-- All rows are done. -/
theorem Gr.done (T : Gr e w0 W g n n l bl cp M v m xs) (hlt : ∀ i j, M i j < 256) : Tb W w0.heap.size g n bl cp l M where
  g_lo := T.g_lo
  g_hi := T.g_hi
  hd := T.hd
  hd_f := T.hd_f
  b_lo := T.b_lo
  b_hi := T.b_hi
  b_g := T.b_g
  inj := T.inj
  cap := T.cap
  cell := T.cell
  cell_f := T.cell_f
  lt := hlt
  room := T.room
end
end Go.Proofs.Ytepkiicekcglhaa

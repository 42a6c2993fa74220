/-
  Rows of unlike lengths, whose headers lie side by side: read, collected, spoiled.
-/
import Derived.Test.YtepkiicekcglhaaMx3
import Derived.Test.YtepkiicekcglhaaMx6
import Derived.Lib.AppendZeros
import Derived.Test.YtepkiicekcglhaaAppRow
set_option linter.unusedVariables false
set_option linter.unusedSimpArgs false
namespace Go.Proofs.Ytepkiicekcglhaa
open Go.RowKit Go.BigFrame

/-- The headers of rows. -/
def hdT (ra : Nat → Option Addr) (ln cp : Nat → Nat) (k : Nat) : List Value := (List.range k).map fun i => .slice (ra i) (ln i) (cp i)
theorem hdT_length (ra : Nat → Option Addr) (ln cp : Nat → Nat) (k : Nat) : (hdT ra ln cp k).length = k := by simp [hdT]
theorem hdT_get (ra : Nat → Option Addr) (ln cp : Nat → Nat) {k i : Nat} (h : i < k) : (hdT ra ln cp k)[i]? = some (.slice (ra i) (ln i) (cp i)) := by simp [hdT, h]
theorem hdT_one (ra : Nat → Option Addr) (ln cp : Nat → Nat) (k : Nat) : ∀ u ∈ hdT ra ln cp k, u.oneCell' = true := by
  intro u hu
  simp only [hdT, List.mem_map] at hu
  obtain ⟨x, -, rfl⟩ := hu
  rfl
theorem hdT_succ (ra : Nat → Option Addr) (ln cp : Nat → Nat) (k : Nat) : hdT ra ln cp (k + 1) = hdT ra ln cp k ++ [.slice (ra k) (ln k) (cp k)] := by
  unfold hdT; rw [List.range_succ, List.map_append]; rfl
theorem hdT_congr {ra rb : Nat → Option Addr} {ln l2 cp c2 : Nat → Nat} {k : Nat} (h : ∀ i, i < k → ra i = rb i ∧ ln i = l2 i ∧ cp i = c2 i) : hdT ra ln cp k = hdT rb l2 c2 k :=
  List.map_congr_left fun i hi => by
    obtain ⟨h1, h2, h3⟩ := h i (List.mem_range.1 hi)
    rw [h1, h2, h3]
theorem Tab.hdR {w : World} {A : Option Addr} {n : Nat} {ra : Nat → Option Addr} {ln cp : Nat → Nat} {M : Nat → Nat → Nat} (T : Tab w A n ra ln cp M) : Row w A n 1 (hdT ra ln cp n) := by
  refine ⟨by rw [hdT_length, Nat.mul_one], fun h => ?_⟩
  obtain ⟨b, o, hA, hb, hc⟩ := T.hd h
  exact ⟨b, o, hA, hb, fun j hj => by rw [hc j (by omega), hdT_get _ _ _ (by omega)]⟩

/-- One behind the other. -/
def cat {α : Type} (n : Nat) (f g : Nat → α) : Nat → α := fun i => if i < n then f i else g (i - n)
theorem cat_l {α : Type} {n : Nat} (f g : Nat → α) {i : Nat} (h : i < n) : cat n f g i = f i := if_pos h
theorem cat_r {α : Type} {n : Nat} (f g : Nat → α) (i : Nat) : cat n f g (n + i) = g i := by
  unfold cat; rw [if_neg (by omega), Nat.add_sub_cancel_left]
theorem hdT_cat (n m : Nat) (ra rb : Nat → Option Addr) (ln l2 cp c2 : Nat → Nat) : hdT (cat n ra rb) (cat n ln l2) (cat n cp c2) (n + m) = hdT ra ln cp n ++ hdT rb l2 c2 m := by
  apply List.ext_getElem?
  intro i
  by_cases h : i < n
  · rw [hdT_get _ _ _ (by omega), List.getElem?_append_left (by rw [hdT_length]; exact h), hdT_get _ _ _ h, cat_l _ _ h, cat_l _ _ h, cat_l _ _ h]
  · obtain ⟨j, rfl⟩ : ∃ j, i = n + j := ⟨i - n, by omega⟩
    rw [List.getElem?_append_right (by rw [hdT_length]; omega), hdT_length, Nat.add_sub_cancel_left]
    by_cases h2 : j < m
    · rw [hdT_get _ _ _ (by omega), hdT_get _ _ _ h2, cat_r, cat_r, cat_r]
    · rw [List.getElem?_eq_none (by rw [hdT_length]; omega), List.getElem?_eq_none (by rw [hdT_length]; omega)]
theorem Tab.cat {w : World} {A B C : Option Addr} {n m : Nat} {ra rb : Nat → Option Addr} {ln l2 cp c2 : Nat → Nat} {M N : Nat → Nat → Nat} (T : Tab w A n ra ln cp M) (S : Tab w B m rb l2 c2 N) (R : Row w C (n + m) 1 (hdT ra ln cp n ++ hdT rb l2 c2 m)) :
    Tab w C (n + m) (cat n ra rb) (cat n ln l2) (cat n cp c2) (cat n M N) where
  hd h := by
    obtain ⟨b, o, hA, hb, hc⟩ := R.2 h
    exact ⟨b, o, hA, hb, fun i hi => by rw [hc i (by omega), ← hdT_cat, hdT_get _ _ _ hi]⟩
  row i hi h := by
    by_cases c : i < n
    · simp only [Proofs.Ytepkiicekcglhaa.cat, if_pos c] at h ⊢; exact T.row i c h
    · simp only [Proofs.Ytepkiicekcglhaa.cat, if_neg c] at h ⊢; exact S.row _ (by omega) h
  cap i hi := by
    by_cases c : i < n
    · simp only [Proofs.Ytepkiicekcglhaa.cat, if_pos c]; exact T.cap i c
    · simp only [Proofs.Ytepkiicekcglhaa.cat, if_neg c]; exact S.cap _ (by omega)
  lt i j := by
    by_cases c : i < n
    · simp only [Proofs.Ytepkiicekcglhaa.cat, if_pos c]; exact T.lt i j
    · simp only [Proofs.Ytepkiicekcglhaa.cat, if_neg c]; exact S.lt _ j

/-- Rows on the way: each a slice of the call's own. -/
structure Bag (e : TypeId) (w0 W : World) (v : Value) (k : Nat) (ra : Nat → Option Addr) (ln cp : Nat → Nat) (M : Nat → Nat → Nat) : Prop where
  ext : Ext w0 W
  own : W.ownsRow w0.heap.size e 1 v k (hdT ra ln cp k)
  off : ∀ i b o, i < k → ra i = some ⟨b, o, none⟩ → v.ownBlock ≠ some b
  row : ∀ i, i < k → 0 < ln i → ∃ b o, ra i = some ⟨b, o, none⟩ ∧ b < W.heap.size ∧ ∀ j, j < ln i → W.cell? ⟨b, o + j, none⟩ = some (.int .u8 (M i j : Int))
  has : ∀ i b o, i < k → ra i = some ⟨b, o, none⟩ → b < W.heap.size
  cap : ∀ i, i < k → ln i ≤ cp i ∧ cp i ≤ 9223372036854775807
section
variable {e : TypeId} {w0 W W1 W2 : World} {v : Value} {k : Nat} {ra : Nat → Option Addr} {ln cp : Nat → Nat} {M : Nat → Nat → Nat}
theorem Bag.nil (e : TypeId) (w0 : World) (ra : Nat → Option Addr) (ln cp : Nat → Nat) (M : Nat → Nat → Nat) : Bag e w0 w0 (.slice none 0 0) 0 ra ln cp M where
  ext := Ext.refl _
  own := World.ownsRow_nil _ _ _ _
  off _ _ _ h := absurd h (by omega)
  row _ h := absurd h (by omega)
  has _ _ _ h := absurd h (by omega)
  cap _ h := absurd h (by omega)
theorem Bag.keep (T : Bag e w0 W v k ra ln cp M) (E : Ext W W1) : Bag e w0 W1 v k ra ln cp M :=
  { T with
    ext := T.ext.trans E
    own := row_ext T.own E
    row := fun i hi h => by
      obtain ⟨b, o, h1, h2, h3⟩ := T.row i hi h
      exact ⟨b, o, h1, Nat.lt_of_lt_of_le h2 E.size, fun j hj => (E.cell (p := ⟨b, o + j, none⟩) h2).trans (h3 j hj)⟩
    has := fun i b o hi h => Nat.lt_of_lt_of_le (T.has i b o hi h) E.size }
/-- One row more. -/
theorem Bag.add (T : Bag e w0 W v k ra ln cp M) (E : Ext W W1) {A : Option Addr} {l c : Nat} {f : Nat → Nat} (hnew : ∀ b o, A = some ⟨b, o, none⟩ → W.heap.size ≤ b ∧ b < W1.heap.size)
    (hrow : 0 < l → ∃ b o, A = some ⟨b, o, none⟩ ∧ b < W1.heap.size ∧ ∀ j, j < l → W1.cell? ⟨b, o + j, none⟩ = some (.int .u8 (f j : Int))) (hc : l ≤ c ∧ c ≤ 9223372036854775807) {v' : Value}
    (own : W2.ownsRow w0.heap.size e 1 v' (k + 1) (hdT ra ln cp k ++ [.slice A l c])) (hg : W1.grownBy W2 v.ownBlock) (hat : v'.ownBlock = v.ownBlock ∨ ∃ q, v'.ownBlock = some q ∧ W1.heap.size ≤ q) :
    Bag e w0 W2 v' (k + 1) (upf ra k A) (upf ln k l) (upf cp k c) (upf M k f) := by
  have T1 := T.keep E
  have hE : Ext w0 W2 := T1.ext.grown hg fun q hq => (T1.own.lt q hq).1
  have hs := hg.size
  have hup : ∀ i b o, i < k + 1 → upf ra k A i = some ⟨b, o, none⟩ → b < W1.heap.size ∧ v.ownBlock ≠ some b := fun i b o hi h => by
    by_cases d : i = k
    · subst d; rw [upf_same] at h
      have := hnew b o h
      exact ⟨this.2, fun hv => by have := (T.own.lt b hv).2; omega⟩
    · rw [upf_ne _ _ d] at h; exact ⟨T1.has i b o (by omega) h, T.off i b o (by omega) h⟩
  have hH : hdT (upf ra k A) (upf ln k l) (upf cp k c) (k + 1) = hdT ra ln cp k ++ [.slice A l c] := by
    rw [hdT_succ, upf_same, upf_same, upf_same, hdT_congr (k := k) (rb := ra) (l2 := ln) (c2 := cp) fun i hi => ⟨upf_ne _ _ (by omega), upf_ne _ _ (by omega), upf_ne _ _ (by omega)⟩]
  refine ⟨hE, by rw [hH]; exact own, fun i b o hi h => ?_, fun i hi h => ?_, fun i b o hi h => ?_, fun i hi => ?_⟩
  · have := hup i b o hi h
    rcases hat with h2 | ⟨q, h2, hq⟩
    · rw [h2]; exact this.2
    · rw [h2]; intro e; injection e with e; omega
  · by_cases d : i = k
    · subst d
      rw [upf_same] at h
      obtain ⟨b, o, h1, h2, h3⟩ := hrow h
      refine ⟨b, o, by rw [upf_same]; exact h1, Nat.lt_of_lt_of_le h2 hs, fun j hj => ?_⟩
      rw [upf_same] at hj
      rw [upf_same, World.cell?_of_block (a := ⟨b, o + j, none⟩) (hg.block b h2 fun e => (hup i b o (by omega) (by rw [upf_same]; exact h1)).2 e.symm)]
      exact h3 j hj
    · rw [upf_ne _ _ d] at h
      obtain ⟨b, o, h1, h2, h3⟩ := T1.row i (by omega) h
      refine ⟨b, o, by rw [upf_ne _ _ d]; exact h1, Nat.lt_of_lt_of_le h2 hs, fun j hj => ?_⟩
      rw [upf_ne _ _ d] at hj
      rw [upf_ne _ _ d, World.cell?_of_block (a := ⟨b, o + j, none⟩) (hg.block b h2 fun e => (T.off i b o (by omega) h1) e.symm)]
      exact h3 j hj
  · have := (hup i b o hi h).1; omega
  · by_cases d : i = k
    · subst d; rw [upf_same, upf_same]; exact hc
    · rw [upf_ne _ _ d, upf_ne _ _ d]; exact T.cap i (by omega)
theorem Bag.congr (T : Bag e w0 W v k ra ln cp M) {ra' : Nat → Option Addr} {ln' cp' : Nat → Nat} {M' : Nat → Nat → Nat} (h : ∀ i, i < k → ra i = ra' i ∧ ln i = ln' i ∧ cp i = cp' i ∧ ∀ j, j < ln i → M i j = M' i j) : Bag e w0 W v k ra' ln' cp' M' where
  ext := T.ext
  own := by rw [← hdT_congr fun i hi => ⟨(h i hi).1, (h i hi).2.1, (h i hi).2.2.1⟩]; exact T.own
  off i b o hi h2 := T.off i b o hi (by rw [(h i hi).1]; exact h2)
  row i hi h0 := by
    obtain ⟨h1, h2, h3, h4⟩ := h i hi
    rw [← h2] at h0
    obtain ⟨b, o, g1, g2, g3⟩ := T.row i hi h0
    exact ⟨b, o, by rw [← h1]; exact g1, g2, fun j hj => by rw [← h2] at hj; rw [← h4 j hj]; exact g3 j hj⟩
  has i b o hi h2 := T.has i b o hi (by rw [(h i hi).1]; exact h2)
  cap i hi := by rw [← (h i hi).2.1, ← (h i hi).2.2.1]; exact T.cap i hi
theorem Bag.tab (T : Bag e w0 W v k ra ln cp M) (hlt : ∀ i j, M i j < 256) : ∃ A c, v = .slice A k c ∧ Tab W A k ra ln cp M := by
  obtain ⟨A, c, rfl, R, -, -, -⟩ := row_of_own T.own
  exact ⟨A, c, rfl, fun h => by
    obtain ⟨b, o, h1, h2, h3⟩ := R.2 h
    exact ⟨b, o, h1, h2, fun i hi => by rw [h3 i (by omega), hdT_get _ _ _ hi]⟩, T.row, T.cap, hlt⟩
end

/-- Rows that may be spoiled. -/
def Soil (W : World) (base n : Nat) (hs : List Value) : Prop := hs.length = n ∧ ∀ i, i < n → ∃ b l c, hs[i]? = some (.slice (some ⟨b, 0, none⟩) l c) ∧ base ≤ b ∧ l ≤ c ∧ c ≤ 9223372036854775807 ∧ Roomy W b c
theorem Soil.nil (W : World) (base : Nat) : Soil W base 0 [] := ⟨rfl, fun i h => absurd h (by omega)⟩
theorem Soil.of_tb {W : World} {base g n l : Nat} {bl cp : Nat → Nat} {M : Nat → Nat → Nat} (T : Tb W base g n bl cp l M) : Soil W base n (hds bl cp l n) :=
  ⟨hds_length _ _ _ _, fun i hi => ⟨bl i, l, cp i, hds_get _ _ _ hi, T.b_lo i hi, (T.cap i hi).1, (T.cap i hi).2, T.room i hi⟩⟩
theorem Soil.keep {W W' : World} {base n : Nat} {hs : List Value} (h : Soil W base n hs) (E : Ext W W') : Soil W' base n hs :=
  ⟨h.1, fun i hi => by
    obtain ⟨b, l, c, h1, h2, h3, h4, h5⟩ := h.2 i hi
    exact ⟨b, l, c, h1, h2, h3, h4, h5.keep E⟩⟩
theorem Soil.mono {W : World} {base base' n : Nat} {hs : List Value} (h : Soil W base n hs) (hb : base' ≤ base) : Soil W base' n hs :=
  ⟨h.1, fun i hi => by
    obtain ⟨b, l, c, h1, h2, h3, h4, h5⟩ := h.2 i hi
    exact ⟨b, l, c, h1, Nat.le_trans hb h2, h3, h4, h5⟩⟩
theorem Soil.cat {W : World} {base n m : Nat} {hs gs : List Value} (h : Soil W base n hs) (g : Soil W base m gs) : Soil W base (n + m) (hs ++ gs) :=
  ⟨by rw [List.length_append, h.1, g.1], fun i hi => by
    by_cases c : i < n
    · obtain ⟨b, l, c', h1, r⟩ := h.2 i c
      exact ⟨b, l, c', by rw [List.getElem?_append_left (by rw [h.1]; exact c)]; exact h1, r⟩
    · obtain ⟨b, l, c', h1, r⟩ := g.2 (i - n) (by omega)
      exact ⟨b, l, c', by rw [List.getElem?_append_right (by rw [h.1]; omega), h.1]; exact h1, r⟩⟩
theorem Tb.hdR {W : World} {base g n l : Nat} {bl cp : Nat → Nat} {M : Nat → Nat → Nat} (T : Tb W base g n bl cp l M) : Row W (some ⟨g, 0, none⟩) n 1 (hds bl cp l n) :=
  ⟨by rw [hds_length, Nat.mul_one], fun _ => ⟨g, 0, rfl, T.g_hi, fun j hj => by rw [Nat.zero_add, T.hd j (by omega), hds_get _ _ _ (by omega)]⟩⟩
theorem hds_one (bl cp : Nat → Nat) (l k : Nat) : ∀ u ∈ hds bl cp l k, u.oneCell' = true := by
  intro u hu
  simp only [hds, List.mem_map] at hu
  obtain ⟨x, -, rfl⟩ := hu
  rfl

set_option maxRecDepth 100000 in
set_option maxHeartbeats 1000000 in
theorem concat_rows_grow (N : Nat) (w : World) (hb : N * 24 ≤ 140737488355328) (h63 : N ≤ 4611686018427387904) :
    Calls Try.prog 23 #[.slice none 0 0, .int .i64 N] w fun e w' => (∃ v, e = .returned v ∧ w'.ownsRow w.heap.size 23 1 v 0 []) ∧ Ext w w' := by
  have hi0 : (Try.prog.info? 23).map (fun i => (i.zero, i.size, i.bytes)) = some (some (Value.slice none 0 0), 1, 24) := by kernel_rfl
  obtain ⟨i0, hi, hz0, hz1, hz2⟩ := info_parts hi0
  rcases Nat.eq_zero_or_pos N with rfl | h0
  · go_enter Try.func23, Try.ntmps23
    go_wp2
    go_ret
    exact ⟨⟨_, rfl, World.ownsRow_nil _ _ _ _⟩, Ext.refl _⟩
  · have hrun := fun w : World => Lib.run_append_nil_zeros (P := Try.prog) w 22 3 22 23 i0 (Value.slice none 0 0) .i64 .i64 Try.underlying22 Try.underlying3 hi hz0 N h0 (by rw [hz1]; decide) (by omega) (by rw [hz2]; omega)
    have hcap := grownCap_le_maxLen w N 0 23 (by unfold maxLen; omega)
    have hge := grownCap_ge w N 0 23
    have hown := World.ownsRow_made (base := w.heap.size) (e := 23) (size := 1) w.drew (Builtin.zeroCells (Value.slice none 0 0).cells N ++ Builtin.zeroCells (Value.slice none 0 0).cells (grownCap w N 0 23 - N)) (grownCap w N 0 23) (Nat.le_refl _) hcap (by
      have hz : (Value.slice none 0 0 : Value).cells.size = 1 := rfl
      simp only [Array.size_append, size_zeroCells, hz, ← Nat.add_mul]
      rw [Nat.add_sub_cancel' hge])
    have HO := hide hown
    clear hown
    have HR := hide (hrun w)
    clear hrun
    generalize grownCap w N 0 23 = C at *
    go_enter Try.func23, Try.ntmps23
    go_wp2_with (at_builtin; refine Lib.wpList_append_run _ rfl _ _ _ _ rfl _ _ rfl rfl _ _ (unhide HR) ?_)
    go_ret
    exact ⟨⟨_, rfl, unhide HO⟩, ((Ext.refl w).drewN 1).alloc _⟩

set_option maxRecDepth 100000 in
set_option maxHeartbeats 1000000 in
theorem concat_rows (g n c m d : Nat) (A B : Option Addr) (xs ys : List Value) (w : World) (hg : g < w.heap.size) (c0 : w.cell? ⟨g, 0, none⟩ = some (.slice A n c)) (c1 : w.cell? ⟨g, 1, none⟩ = some (.slice B m d))
    (R : Row w A n 1 xs) (S : Row w B m 1 ys) (o1 : ∀ u ∈ xs, u.oneCell' = true) (o2 : ∀ u ∈ ys, u.oneCell' = true) (hA : A = none → n = 0 ∧ c = 0) (hB : B = none → m = 0 ∧ d = 0)
    (hb : (n + m) * 24 ≤ 140737488355328) (h63 : n + m ≤ 4611686018427387904) :
    Calls Try.prog 7 #[.slice (some ⟨g, 0, none⟩) 2 2] w fun e w' => (∃ v, e = .returned v ∧ w'.ownsRow w.heap.size 23 1 v (n + m) (xs ++ ys)) ∧ Ext w w' := by
  have hI : EInfo Try.prog 22 23 (Value.slice none 0 0) 1 24 := EInfo.mk_ Try.underlying22 (by kernel_rfl) rfl (by omega)
  have hgrow := concat_rows_grow (n + m) w hb h63
  have HG := hide hgrow
  have HR := hide R
  have HS := hide S
  have HI := hide hI
  have C0 := hide (fun (w' : World) (E : Ext w w') => (E.cell (p := ⟨g, 0, none⟩) hg).trans c0)
  have C1 := hide (fun (w' : World) (E : Ext w w') => (E.cell (p := ⟨g, 1, none⟩) hg).trans c1)
  have HA := hide hA
  have HB := hide hB
  have O1 := hide o1
  have O2 := hide o2
  clear hgrow R S hI hA hB o1 o2
  go_enter Try.func7, Try.ntmps7
  go_wp2
  go_loopw [3, 5, 11] (fun s _ i wr => w = wr ∧ ((i = .int .i64 0 ∧ s = .int .i64 0) ∨ (i = .int .i64 1 ∧ s = .int .i64 (n : Int)) ∨ (i = .int .i64 2 ∧ s = .int .i64 ((n + m : Nat) : Int)))) (fun _ _ i _ => 2 - (intOf i).toNat)
  case atStart => exact ⟨rfl, .inl ⟨rfl, rfl⟩⟩
  case round =>
    obtain ⟨rfl, ⟨rfl, rfl⟩ | ⟨rfl, rfl⟩ | ⟨rfl, rfl⟩⟩ := hrel
    · go_wp2
      go_roundw
      case rel => exact ⟨by first | trivial | rfl, .inr (.inl ⟨rfl, by go_num⟩)⟩
      case measure => simp [intOf]
    · go_wp2
      go_roundw
      case rel => exact ⟨by first | trivial | rfl, .inr (.inr ⟨rfl, by go_num⟩)⟩
      case measure => simp [intOf]
    · go_wp2_with fail
      refine (unhide HG).mono ?_
      rintro e w1 ⟨⟨v, rfl, hown⟩, E1⟩
      go_wp2
      go_loopw [6, 8, 27] (fun s _ i wr => ∃ (N : Nat) (zs : List Value), ((i = .int .i64 0 ∧ N = 0 ∧ zs = []) ∨ (i = .int .i64 1 ∧ N = n ∧ zs = xs) ∨ (i = .int .i64 2 ∧ N = n + m ∧ zs = xs ++ ys)) ∧ wr.ownsRow w.heap.size 23 1 s N zs ∧ Ext w wr) (fun _ _ i _ => 2 - (intOf i).toNat)
      case atStart => exact ⟨0, [], .inl ⟨rfl, rfl, rfl⟩, hown, E1⟩
      case round =>
        clear hown
        obtain ⟨N, zs, ⟨rfl, rfl, rfl⟩ | ⟨rfl, rfl, rfl⟩ | ⟨rfl, rfl, rfl⟩, hown, E2⟩ := hrel
        · have d0 := unhide C0 _ E2
          have hs := E2.size
          go_wp2_with (at_builtin; refine stop ?_)
          unfold Stop
          refine wpList_append_row rfl _ _ 22 (by rfl) w.heap.size 23 (unhide HI) _ 0 [] (by rfl) hown A n c xs (by rfl) ((unhide HR).keep E2) (unhide HA) (unhide O1) (by unfold maxLen; omega) (by omega) hs ?_
          intro v' w' hown' hgrow
          have E3 := E2.grown hgrow (fun q hq => (hown.lt q hq).1)
          clear hgrow hown
          go_wp2
          go_roundw
          case rel => exact ⟨_, _, .inr (.inl ⟨rfl, rfl, rfl⟩), by rw [Nat.zero_add, List.nil_append] at hown'; exact hown', E3⟩
          case measure => simp [intOf]
        · have d1 := unhide C1 _ E2
          have hs := E2.size
          go_wp2_with (at_builtin; refine stop ?_)
          unfold Stop
          refine wpList_append_row rfl _ _ 22 (by rfl) w.heap.size 23 (unhide HI) _ _ _ (by rfl) hown B m d ys (by rfl) ((unhide HS).keep E2) (unhide HB) (unhide O2) (by unfold maxLen; omega) (by omega) hs ?_
          intro v' w' hown' hgrow
          have E3 := E2.grown hgrow (fun q hq => (hown.lt q hq).1)
          clear hgrow hown
          go_wp2
          go_roundw
          case rel => exact ⟨_, _, .inr (.inr ⟨rfl, rfl, rfl⟩), hown', E3⟩
          case measure => simp [intOf]
        · go_wp2
          go_ret
          exact ⟨⟨_, rfl, hown⟩, E2⟩


theorem grownBy_setC {w w' : World} {g : Nat} (h : w.grownBy w' (some g)) (j : Nat) (u : Value) : w.grownBy (w'.setCell ⟨g, j, none⟩ u) (some g) :=
  ⟨h.os, h.tape, h.output, by simpa using h.size, fun k hk hne => by
    have hgk : g ≠ k := fun e => hne (by rw [e])
    rw [← h.block k hk hne]
    simp [World.setCell, Array.getElem?_modify, hgk]⟩
theorem Roomy.turn {W W' : World} {b c : Nat} (h : Roomy W b c) {row : Option Nat} (hg : W.grownBy W' row) (hr : ∀ c', row = some b → Roomy W b c' → Roomy W' b c') : Roomy W' b c := by
  by_cases e : row = some b
  · exact hr c e h
  · exact h.of_block (hg.block b h.lt fun h => e h.symm)
set_option maxRecDepth 100000 in
set_option maxHeartbeats 1000000 in
theorem spoil_u8 (b l c x : Nat) (w : World) (hlc : l ≤ c) (hc : c ≤ 9223372036854775807) (R : Roomy w b c) :
    Calls Try.prog 11 #[.slice (some ⟨b, 0, none⟩) l c, .int .u8 x] w fun e w' => (∃ r, e = .returned r) ∧ w.grownBy w' (some b) ∧ ∀ c', Roomy w b c' → Roomy w' b c' := by
  have HR := hide R
  clear R
  go_enter Try.func11, Try.ntmps11
  go_wp2
  go_loopw [11] (fun i wr => ∃ k : Nat, k ≤ c ∧ i = .int .i64 k ∧ Hid (w.grownBy wr (some b)) ∧ Hid (∀ c', Roomy w b c' → Roomy wr b c')) (fun i _ => c - (intOf i).toNat)
  case atStart => exact ⟨0, Nat.zero_le _, rfl, hide (World.grownBy.refl _ _), hide (fun _ h => h)⟩
  case round =>
    obtain ⟨k, hk, rfl, HG, HH⟩ := hrel
    by_cases hlt : k < c
    · obtain ⟨cur', t, hc2, hc1⟩ := unhide HH _ (unhide HR)
      have hcell : wr.cell? ⟨b, k, none⟩ = some (cur'[k]'(by omega)) := by
        have : k < cur'.size := by omega
        simp [World.cell?, hc2, this]
      have hfr : wr.frozen? ⟨b, k, none⟩ = false := by simp [World.frozen?, hc2]
      have HG2 := hide (grownBy_setC (unhide HG) k (.int .u8 x))
      have HH2 := hide (fun c' h => (unhide HH c' h).set ⟨b, k, none⟩ (.int .u8 x))
      generalize cur'[k]'(by omega) = old at hcell
      clear HH HG hc1 hc2
      go_wp2
      go_roundw
      case rel => exact ⟨k + 1, by omega, by go_num, HG2, HH2⟩
      case measure => simp [intOf]; omega
    · obtain rfl : c = k := by omega
      go_wp2
      go_end0
      exact ⟨⟨_, rfl⟩, unhide HG, unhide HH⟩
end Go.Proofs.Ytepkiicekcglhaa

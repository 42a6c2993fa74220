/-
  The walk of the law GridCauchy.
-/
import Derived.Test.YtifkphlbjjdigaaMxA
import Derived.Test.YtifkphlbjjdigaaMxVanderW
import Derived.Test.YtifkphlbjjdigaaMat7
set_option linter.unusedVariables false
set_option linter.unusedSimpArgs false
namespace Go.Proofs.Ytifkphlbjjdigaa
open Go.RowKit Go.BigFrame Wm.Fld

/-- The numbers below x that are picked. -/
def pk (s : Nat → Bool) (x : Nat) : List Nat := (List.range x).filter s
theorem pk_t {s : Nat → Bool} {x : Nat} (h : s x = true) : pk s (x + 1) = pk s x ++ [x] := by
  unfold pk; rw [List.range_succ, List.filter_append]; simp [h]
theorem pk_f {s : Nat → Bool} {x : Nat} (h : s x = false) : pk s (x + 1) = pk s x := by
  unfold pk; rw [List.range_succ, List.filter_append]; simp [h]
theorem pk_len (s : Nat → Bool) (x : Nat) : (pk s x).length ≤ x := by
  unfold pk; exact Nat.le_trans (List.length_filter_le _ _) (by simp)
theorem pk_lt {s : Nat → Bool} {x i : Nat} (h : i < (pk s x).length) : (pk s x).getD i 0 < x := by
  have := getD_mem (pk s x) 0 h
  unfold pk at this
  rw [List.mem_filter] at this
  exact List.mem_range.1 this.1
theorem pk_inj {s : Nat → Bool} {x i j : Nat} (hi : i < (pk s x).length) (hj : j < (pk s x).length) (h : (pk s x).getD i 0 = (pk s x).getD j 0) : i = j := by
  have hp : (pk s x).Pairwise (· < ·) := List.Pairwise.filter _ List.pairwise_lt_range
  rw [List.getD_eq_getElem?_getD, List.getD_eq_getElem?_getD, List.getElem?_eq_getElem hi, List.getElem?_eq_getElem hj] at h
  have h2 : (pk s x)[i] = (pk s x)[j] := h
  rw [List.pairwise_iff_getElem] at hp
  by_cases a : i < j
  · have := hp i j hi hj a; omega
  · by_cases b : j < i
    · have := hp j i hj hi b; omega
    · omega

/-- Rows on the way, which may all be empty. -/
def Prt (e : TypeId) (w0 W : World) (v : Value) (k q : Nat) (M : Nat → Nat → Nat) : Prop :=
  (q = 0 ∧ Ext w0 W ∧ ∃ hs : List Value, W.ownsRow w0.heap.size e 1 v k hs ∧ ∀ i, i < k → ∃ A c, hs[i]? = some (.slice A 0 c)) ∨ (0 < q ∧ ∃ bl cp, Bld e w0 W v k bl cp q M)
theorem Prt.nil (e : TypeId) (w0 : World) (q : Nat) (M : Nat → Nat → Nat) : Prt e w0 w0 (.slice none 0 0) 0 q M := by
  by_cases h : q = 0
  · exact .inl ⟨h, Ext.refl _, [], World.ownsRow_nil _ _ _ _, fun i hi => absurd hi (by omega)⟩
  · exact .inr ⟨by omega, _, _, Bld.nil e w0 (fun _ => 0) (fun _ => 0) q M⟩
theorem Prt.ext {e : TypeId} {w0 W : World} {v : Value} {k q : Nat} {M : Nat → Nat → Nat} (T : Prt e w0 W v k q M) : Ext w0 W := by
  rcases T with ⟨-, h, -⟩ | ⟨-, bl, cp, T⟩
  · exact h
  · exact T.ext
theorem Prt.next {e eb eh : TypeId} {w0 wb W1 : World} {v s : Value} {k q : Nat} {M M' : Nat → Nat → Nat} {ys : List Nat} (T : Prt e w0 wb v k q M) (E : Ext wb W1) (hs : W1.ownsRow wb.heap.size eb 1 s q (nats .u8 ys))
    (hM : ∀ i j, i < k → j < q → M i j = M' i j) (hk : ∀ j, j < q → ys.getD j 0 = M' k j) :
    ∃ xs, (W1.alloc (.cells #[s] eh)).ownsRow w0.heap.size e 1 v k xs ∧ ∀ v' W2, W2.ownsRow w0.heap.size e 1 v' (k + 1) (xs ++ [s]) → (W1.alloc (.cells #[s] eh)).grownBy W2 v.ownBlock →
      (v'.ownBlock = v.ownBlock ∨ v'.ownBlock = some (W1.alloc (.cells #[s] eh)).heap.size) → Prt e w0 W2 v' (k + 1) q M' := by
  have EA : Ext wb (W1.alloc (.cells #[s] eh)) := E.trans ((Ext.refl W1).alloc _)
  rcases T with ⟨h0, E0, xs, own, hx⟩ | ⟨h0, bl, cp, T⟩
  · refine ⟨xs, row_ext own EA, fun v' W2 own2 hg hat => .inl ⟨h0, (E0.trans EA).grown hg fun b hb => ((row_ext own EA).lt b hb).1, _, own2, fun i hi => ?_⟩⟩
    have hlen : xs.length = k := by have := own.1; simpa using this
    by_cases c : i < k
    · rw [List.getElem?_append_left (by omega)]; exact hx i c
    · obtain rfl : i = k := by omega
      rw [List.getElem?_append_right (by omega), hlen, Nat.sub_self]
      rcases hs.2 with ⟨h2, -⟩ | ⟨g, cap, cur, h2, -⟩
      · exact ⟨none, 0, by rw [h2]; rfl⟩
      · exact ⟨_, _, by rw [h2, h0]; rfl⟩
  · have hown := T.keep EA
    refine ⟨_, hown.own, fun v' W2 own2 hg hat => .inr ⟨h0, ?_⟩⟩
    obtain ⟨b, c, rfl, hb1, hb2, hc1, hc2, hcell⟩ := row_open hs h0
    have hlen : ys.length = q := by have := hs.1; rw [nats_length] at this; omega
    have hfz : ∀ j, W1.frozen? ⟨b, j, none⟩ = false := fun j => by
      rcases hs.2 with ⟨h, -⟩ | ⟨q, cp, cur, h, -, hh, -⟩
      · cases h
      · injection h with h
        simp only [Option.some.injEq, Addr.mk.injEq, and_true] at h
        subst h
        simp [World.frozen?, hh]
    have T2 := T.add EA (b := b) (c := c) (f := fun j => ys.getD j 0) hb1 (by simp; omega) ⟨hc1, by unfold maxLen at hc2; omega⟩ (fun j hj => by
      refine ⟨(((Ext.refl W1).alloc (.cells #[.slice (some ⟨b, 0, none⟩) q c] eh)).cell (p := ⟨b, j, none⟩) hb2).trans ?_, (((Ext.refl W1).alloc (.cells #[.slice (some ⟨b, 0, none⟩) q c] eh)).frozen (p := ⟨b, j, none⟩) hb2).trans (hfz j)⟩
      exact (hcell j (by omega)).trans (by rw [nats_get _ _ _ (by omega)])) own2 hg (by
        rcases hat with h | h
        · exact .inl h
        · exact .inr ⟨_, h, Nat.le_refl _⟩)
    refine ⟨_, _, { T2 with cell := fun i j hi hj => (T2.cell i j hi hj).trans ?_ }⟩
    by_cases d : i = k
    · rw [d, upf_same, hk j hj]
    · rw [upf_ne _ _ d, hM i j (by omega) hj]

/-- Rows that are cut, one after the other. -/
structure Ctt (w0 W : World) (g n x l q : Nat) (bl cp : Nat → Nat) (M : Nat → Nat → Nat) : Prop where
  ext : Ext w0 W
  g_lo : w0.heap.size ≤ g
  g_hi : g < W.heap.size
  hd1 : ∀ i, i < x → i < n → W.cell? ⟨g, i, none⟩ = some (.slice (some ⟨bl i, 0, none⟩) l (cp i))
  hd2 : ∀ i, x ≤ i → i < n → W.cell? ⟨g, i, none⟩ = some (.slice (some ⟨bl i, 0, none⟩) q (cp i))
  hd_f : ∀ i, i < n → W.frozen? ⟨g, i, none⟩ = false
  b_hi : ∀ i, i < n → bl i < W.heap.size
  b_g : ∀ i, i < n → bl i ≠ g
  cap : ∀ i, i < n → l ≤ cp i ∧ cp i ≤ 9223372036854775807
  cell : ∀ i j, i < n → j < l → W.cell? ⟨bl i, j, none⟩ = some (.int .u8 (M i j : Int))
  lt : ∀ i j, M i j < 256
theorem Ctt.start {w0 W : World} {g k n l q : Nat} {bl cp : Nat → Nat} {M : Nat → Nat → Nat} (E : Ext w0 W) (T : Tb W w0.heap.size g k bl cp q M) (hn : n ≤ k) (hl : l ≤ q) : Ctt w0 W g n 0 l q bl cp M where
  ext := E
  g_lo := T.g_lo
  g_hi := T.g_hi
  hd1 i h := absurd h (by omega)
  hd2 i _ h := T.hd i (by omega)
  hd_f i h := T.hd_f i (by omega)
  b_hi i h := T.b_hi i (by omega)
  b_g i h := T.b_g i (by omega)
  cap i h := ⟨by have := (T.cap i (by omega)).1; omega, (T.cap i (by omega)).2⟩
  cell i j hi hj := T.cell i j (by omega) (by omega)
  lt := T.lt
theorem Ctt.cut {w0 W : World} {g n x l q : Nat} {bl cp : Nat → Nat} {M : Nat → Nat → Nat} (T : Ctt w0 W g n x l q bl cp M) (hx : x < n) : Ctt w0 (W.setCell ⟨g, x, none⟩ (.slice (some ⟨bl x, 0, none⟩) l (cp x))) g n (x + 1) l q bl cp M where
  ext := T.ext.setCell T.g_lo _
  g_lo := T.g_lo
  g_hi := by simpa using T.g_hi
  hd1 i h h2 := by
    by_cases c : i = x
    · subst c; exact World.cell?_setCell_same' _ _ _ (by rw [T.hd2 i (Nat.le_refl _) hx]; rfl)
    · rw [cell_far _ _ c]; exact T.hd1 i (by omega) h2
  hd2 i h h2 := by rw [cell_far _ _ (by omega)]; exact T.hd2 i (by omega) h2
  hd_f i h := by rw [World.frozen?_setCell]; exact T.hd_f i h
  b_hi i h := by simpa using T.b_hi i h
  b_g := T.b_g
  cap := T.cap
  cell i j hi hj := by rw [cell_off _ _ (T.b_g i hi)]; exact T.cell i j hi hj
  lt := T.lt
theorem Ctt.tab {w0 W : World} {g n l q : Nat} {bl cp : Nat → Nat} {M : Nat → Nat → Nat} (T : Ctt w0 W g n n l q bl cp M) : Tab W (some ⟨g, 0, none⟩) n (fun i => some ⟨bl i, 0, none⟩) (fun _ => l) cp M where
  hd _ := ⟨g, 0, rfl, T.g_hi, fun i hi => by rw [Nat.zero_add]; exact T.hd1 i hi hi⟩
  row i hi _ := ⟨bl i, 0, rfl, T.b_hi i hi, fun j hj => by rw [Nat.zero_add]; exact T.cell i j hi hj⟩
  cap := T.cap
  lt := T.lt

theorem row_new' (w : World) (xs : Array Value) (e : TypeId) (n sz : Nat) (h : xs.size = n * sz) {b : Nat} (hb : b = w.heap.size) : Row (w.alloc (.cells xs e)) (some ⟨b, 0, none⟩) n sz xs.toList := by
  subst hb; exact row_new w xs e n sz h
/-- Part of a Cauchy matrix has no null vector. -/
theorem crs_null {la lb : List Nat} (h8 : ∀ i, la.getD i 0 < 256) (h82 : ∀ i, lb.getD i 0 < 256) (hga : gridErr la = 0) (hgb : gridErr lb = 0) (hmx : gmix la lb = false) {sr sc : Nat → Bool} {n : Nat}
    (hr : n ≤ (pk sr la.length).length) (hc : n ≤ (pk sc lb.length).length) {v : Nat → Wm.B8}
    (h : ∀ j, j < n → sm (fun i => ml (v i) (Wm.m8m (fun i j => crsM la lb ((pk sr la.length).getD i 0) ((pk sc lb.length).getD j 0)) i j)) n = z) : ∀ i, i < n → v i = z := by
  have ga := (gridErr_ok hga).2.2
  have gb := (gridErr_ok hgb).2.2
  refine cauchy_null Wm.b8_two (x := fun i => Wm.m8 (la.getD ((pk sr la.length).getD i 0) 0)) (y := fun j => Wm.m8 (lb.getD ((pk sc lb.length).getD j 0) 0)) ?_ ?_ ?_ ?_
  · intro i j hi hj e
    exact pk_inj (by omega) (by omega) (ga _ _ (pk_lt (by omega)) (pk_lt (by omega)) (Wm.m8_inj (h8 _) (h8 _) e))
  · intro i j hi hj e
    exact pk_inj (by omega) (by omega) (gb _ _ (pk_lt (by omega)) (pk_lt (by omega)) (Wm.m8_inj (h82 _) (h82 _) e))
  · intro i j hi hj e
    exact gmix_no hmx (pk_lt (by omega)) (pk_lt (by omega)) (Wm.m8_inj (h8 _) (h82 _) e)
  · intro j hj
    rw [← h j hj]
    refine sm_congr n fun i hi => ?_
    show _ = ml (v i) (Wm.m8 (Wm.fpow _ 254))
    rw [Wm.m8_iv (Wm.xor_lt (h8 _) (h82 _)), Wm.m8_ad (h8 _) (h82 _)]

--{
set_option maxRecDepth 100000 in
set_option maxHeartbeats 4000000 in
theorem cauchy_law (A : Option Addr) (n c : Nat) (la : List Nat) (B : Option Addr) (m c2 : Nat) (lb : List Nat) (rows cols : Nat) (hr : rows < 65536) (hc : cols < 65536) (w : World) (S : SliceIn w A n c 1 1 (nats .u8 la)) (h8 : ∀ x ∈ la, x < 256) (S2 : SliceIn w B m c2 1 1 (nats .u8 lb)) (h82 : ∀ x ∈ lb, x < 256) :
    Calls Try.prog 10 #[.slice A n c, .slice B m c2, .int .u16 rows, .int .u16 cols] w fun e w' => e = .returned (.bool true) ∧ Ext w w' := by
  obtain ⟨R, hnc, hrb, hc63, hnil⟩ := S
  obtain ⟨R2, hnc2, hrb2, hc632, hnil2⟩ := S2
  have HL := hide R.numN
  have HL2 := hide R2.numN
  have HL8 := hide (getD_lt8 h8)
  have HL82 := hide (getD_lt8 h82)
  have CT := hide tables_any
  have CC := hide (fun w1 (E : Ext w w1) => Crossed_any A n c la B m c2 lb w1 (R.keep E) hnc hc63 h8 (R2.keep E) hnc2 hc632 h82)
  clear R h8 hnil hrb R2 hnil2 hrb2 h82 hnc hnc2 hc63 hc632
  go_enter Try.func10, Try.ntmps10
  have C0 := hide (Crossed_any (some ⟨w.heap.size, 0, none⟩) 1 1 [2] (some ⟨w.heap.size + 1, 0, none⟩) 1 1 [3] ((w.alloc (.cells #[.int .u8 2] 5)).alloc (.cells #[.int .u8 3] 5))
    ((row_new w #[.int .u8 2] 5 1 1 rfl).keep ((Ext.refl _).alloc _)) (by omega) (by omega) (by decide)
    (row_new' (w.alloc (.cells #[.int .u8 2] 5)) #[.int .u8 3] 5 1 1 rfl (by simp)) (by omega) (by omega) (by decide))
  go_wp2_with fail
  refine (unhide C0).mono ?_
  rintro e w1 ⟨ho, E1⟩
  have HE1 := hide ((((Ext.refl w).alloc _).alloc _).trans E1)
  clear C0 E1
  rcases ho with ⟨hne, -⟩ | ⟨-, -, -, -, g1, bl1, cp1, rfl, T1⟩
  · exact absurd (by decide) hne
  have HT1 := hide T1
  clear T1
  have HS1 := hide (same_yes (some ⟨g1, 0, none⟩) _ 1 1 1 _ _ (fun _ => 1) cp1 _ _ _ _ ((unhide HT1).keep (((Ext.refl w1).alloc (.cells (nats .u8 [1]).toArray 5)).alloc (.cells #[.slice (some ⟨w1.heap.size, 0, none⟩) 1 1] 26))).tab
    (tabL1 w1 [1] (by decide) (by decide)) (by omega) (fun _ _ => by omega) (fun i j hi hj => by
      obtain rfl : i = 0 := by omega
      obtain rfl : j = 0 := by omega
      decide +kernel))
  go_wp2_with fail
  refine (unhide HS1).mono ?_
  rintro e w2 ⟨rfl, E2⟩
  have HE2 := hide ((unhide HE1).trans ((((Ext.refl w1).alloc _).alloc _).trans E2))
  clear HS1 E2 HT1
  go_wp2_with fail
  refine (unhide CT w2).mono ?_
  rintro e w3 ⟨rfl, E3⟩
  have HE3 := hide ((unhide HE2).trans E3)
  clear CT E3
  have CX := hide (unhide CC w3 (unhide HE3))
  clear CC
  go_wp2_with fail
  refine (unhide CX).mono ?_
  rintro e w4 ⟨ho, E4⟩
  have HE4 := hide ((unhide HE3).trans E4)
  clear CX E4
  rcases ho with ⟨hne, rfl⟩ | ⟨-, hga, hgb, hmx, g, bl, cp, rfl, T⟩
  · have hB : (crsErr la lb != 0) = true := by rw [bne_iff_ne]; exact hne
    generalize crsErr la lb = r at *
    go_wp2
    go_ret
    exact ⟨rfl, unhide HE4⟩
  · obtain ⟨a1, a2, -⟩ := gridErr_ok hga
    obtain ⟨b1, b2, -⟩ := gridErr_ok hgb
    rw [unhide HL] at a1 a2
    rw [unhide HL2] at b1 b2
    have HGA := hide hga
    have HGB := hide hgb
    have HMX := hide hmx
    have HT := hide T
    clear T hga hgb hmx
    obtain ⟨sr, hsr⟩ : ∃ sr : Nat → Bool, sr = fun x => !(bits BinOp.and IntKind.u16 ((rows : Int) / 2 ^ x) 1 == 0) := ⟨_, rfl⟩
    obtain ⟨sc, hsc⟩ : ∃ sc : Nat → Bool, sc = fun x => (bits BinOp.and IntKind.u16 ((cols : Int) / 2 ^ x) 1 == 1) := ⟨_, rfl⟩
    obtain ⟨q, hq⟩ : ∃ q, q = (pk sc m).length := ⟨_, rfl⟩
    have HSR := hide (fun x => show (bits BinOp.and IntKind.u16 ((rows : Int) / 2 ^ x) 1 == 0) = !sr x from by rw [hsr]; simp)
    have HSC := hide (fun x => show (bits BinOp.and IntKind.u16 ((cols : Int) / 2 ^ x) 1 == 1) = sc x from by rw [hsc])
    have HQ := hide hq
    have hqm : q ≤ m := by rw [hq]; exact pk_len _ _
    clear hq hsr hsc
    go_wp2
    go_loopw [13, 55] (fun v i wr => ∃ x : Nat, x ≤ n ∧ i = .int .i64 x ∧ Hid (Prt 26 w4 wr v (pk sr x).length q (fun i j => crsM la lb ((pk sr x).getD i 0) ((pk sc m).getD j 0)))) (fun _ i _ => n - (intOf i).toNat)
    case atStart => exact ⟨0, Nat.zero_le _, rfl, hide (Prt.nil _ _ _ _)⟩
    case round =>
      obtain ⟨x, hx, rfl, HP⟩ := hrel
      by_cases hlt : x < n
      · obtain ⟨wo, hwo⟩ : ∃ wo, wo = wr := ⟨_, rfl⟩
        subst hwo
        have HT2 := hide ((unhide HT).keep (unhide HP).ext)
        have hh := (unhide HT2).hd x hlt
        cases hs : sr x with
        | false =>
          have hcnd := unhide HSR x
          rw [hs] at hcnd
          have HPE := hide (pk_f hs)
          have hcnd2 : (bits BinOp.and IntKind.u16 ((rows : Int) / 2 ^ x) 1 == 0) = true := hcnd
          clear hcnd hs
          go_wp2
          go_roundw
          case rel => exact ⟨x + 1, by omega, by go_num, by rw [unhide HPE]; exact HP⟩
          case measure => simp [intOf]; omega
        | true =>
          have hcnd := unhide HSR x
          rw [hs] at hcnd
          have hcnd2 : (bits BinOp.and IntKind.u16 ((rows : Int) / 2 ^ x) 1 == 0) = false := hcnd
          have HPT := hide (pk_t hs)
          clear hcnd hs
          go_wp2
          go_loopw [16, 67] (fun s k wz => ∃ j : Nat, j ≤ m ∧ k = .int .i64 j ∧ Hid (Ext wo wz) ∧ Hid (wz.ownsRow wo.heap.size 5 1 s (pk sc j).length (nats .u8 ((pk sc j).map fun t => crsM la lb x t)))) (fun _ k _ => m - (intOf k).toNat)
          case atStart => exact ⟨0, Nat.zero_le _, rfl, hide (Ext.refl _), hide (World.ownsRow_nil _ _ _ _)⟩
          case round =>
            obtain ⟨j, hj, rfl, HE5, HO⟩ := hrel
            by_cases hjm : j < m
            · have hcl := ((unhide HT2).keep (unhide HE5)).cell x j hlt hjm
              obtain ⟨Y, hY⟩ : ∃ Y, Y = crsM la lb x j := ⟨_, rfl⟩
              rw [← hY] at hcl
              have HY := hide hY
              clear hY
              have hpl := pk_len sc j
              cases hs : sc j with
              | false =>
                have hcnd := unhide HSC j
                rw [hs] at hcnd
                have HPE := hide (pk_f hs)
                clear hs
                go_wp2
                go_roundw
                case rel => exact ⟨j + 1, by omega, by go_num, HE5, by rw [unhide HPE]; exact HO⟩
                case measure => simp [intOf]; omega
              | true =>
                have hcnd := unhide HSC j
                rw [hs] at hcnd
                have HPJ := hide (pk_t hs)
                clear hs
                have HEA := hide ((unhide HE5).trans ((Ext.refl wr).alloc (.cells #[.int .u8 (Y : Int)] 5)))
                have HOW := hide (row_ext (unhide HO) ((Ext.refl wr).alloc (.cells #[.int .u8 (Y : Int)] 5)))
                have HBD := hide (show ((pk sc j).length + 1) * 1 ≤ 140737488355328 ∧ (pk sc j).length + 1 ≤ 9223372036854775807 by omega)
                have HBS := hide (unhide HEA).size
                have HRN := hide (row_new wr #[.int .u8 (Y : Int)] 5 1 1 rfl)
                have HXS := hide (show nats .u8 ((pk sc (j + 1)).map fun t => crsM la lb x t) = nats .u8 ((pk sc j).map fun t => crsM la lb x t) ++ [.int .u8 (Y : Int)] from by rw [unhide HPJ, List.map_append, ← nats_append, unhide HY]; rfl)
                have HPL := hide (show (pk sc (j + 1)).length = (pk sc j).length + 1 from by rw [unhide HPJ]; simp)
                generalize (pk sc j).length = k at *
                go_wp2_with (at_builtin; refine stop ?_)
                unfold Stop
                refine wpList_app_any rfl _ _ 26 (by rfl) 5 byteM wo.heap.size _ k _ (by rfl) (unhide HOW) (some ⟨wr.heap.size, 0, none⟩) 1 1 [.int .u8 (Y : Int)] (by rfl) (unhide HRN) rfl (unhide HBD) (unhide HBS) ?_
                intro v' w6 hown6 hg6 hat6
                have HE6 := hide ((unhide HEA).grown hg6 fun b hb => ((unhide HOW).lt b hb).1)
                have HO6 := hide hown6
                clear hown6 hg6 hat6
                go_wp2
                go_roundw
                case rel => exact ⟨j + 1, by omega, by go_num, HE6, by rw [unhide HXS, unhide HPL]; exact HO6⟩
                case measure => simp [intOf]; omega
            · obtain rfl : m = j := by omega
              obtain ⟨xs, hown, hnx⟩ := (unhide HP).next (eh := 26) (M' := fun i j => crsM la lb ((pk sr (x + 1)).getD i 0) ((pk sc m).getD j 0)) (unhide HE5) (by rw [unhide HQ]; exact unhide HO) (fun i j hi hj => by
                show crsM la lb _ _ = crsM la lb _ _
                rw [unhide HPT, List.getD_eq_getElem?_getD (l := pk sr x ++ [x]), List.getElem?_append_left hi, ← List.getD_eq_getElem?_getD]) (fun j hj => by
                show _ = crsM la lb ((pk sr (x + 1)).getD (pk sr x).length 0) _
                rw [unhide HPT, List.getD_eq_getElem?_getD (l := pk sr x ++ [x]), List.getElem?_append_right (Nat.le_refl _), Nat.sub_self]
                rw [unhide HQ] at hj
                rw [List.getD_eq_getElem?_getD, List.getElem?_map, List.getD_eq_getElem?_getD, List.getElem?_eq_getElem hj]
                rfl)
              have HOW := hide hown
              have HNX := hide hnx
              have hpl := pk_len sr x
              have HBD := hide (show ((pk sr x).length + 1) * 24 ≤ 140737488355328 ∧ (pk sr x).length + 1 ≤ 9223372036854775807 by omega)
              have HPL := hide (show (pk sr (x + 1)).length = (pk sr x).length + 1 from by rw [unhide HPT]; simp)
              obtain ⟨A7, l7, c7, hs7⟩ : ∃ A7 l7 c7, u16 = .slice A7 l7 c7 := by
                rcases (unhide HO).2 with ⟨h2, -⟩ | ⟨b, cap, cur, h2, -⟩
                · exact ⟨_, _, _, h2⟩
                · exact ⟨_, _, _, h2⟩
              subst hs7
              have HBS := hide (((unhide HP).ext.trans ((unhide HE5).trans ((Ext.refl wr).alloc (.cells #[.slice A7 l7 c7] 26)))).size)
              have HRN := hide (row_new wr #[.slice A7 l7 c7] 26 1 1 rfl)
              have HONE := hide (show ([.slice A7 l7 c7] : List Value).all (fun u => u.oneCell') = true from by simp [Value.oneCell'])
              clear hown hnx
              generalize (pk sr x).length = k at *
              go_wp2_with (at_builtin; refine stop ?_)
              unfold Stop
              refine wpList_app_any rfl _ _ 22 (by rfl) 26 rowM w4.heap.size _ k _ (by rfl) (unhide HOW) (some ⟨wr.heap.size, 0, none⟩) 1 1 [.slice A7 l7 c7] (by rfl) (unhide HRN) (unhide HONE) (unhide HBD) (unhide HBS) ?_
              intro v' w6 hown6 hg6 hat6
              have HPN := hide (unhide HNX v' w6 hown6 hg6 hat6)
              clear hown6 hg6 hat6
              go_wp2
              go_roundw
              case rel => exact ⟨x + 1, by omega, by go_num, by rw [unhide HPL]; exact HPN⟩
              case measure => simp [intOf]; omega
      · obtain rfl : n = x := by omega
        have hpl := pk_len sr n
        obtain ⟨K, hK⟩ : ∃ K, K = (pk sr n).length := ⟨_, rfl⟩
        have HK := hide hK
        have HER := hide ((unhide HE4).trans (unhide HP).ext)
        by_cases hK0 : K = 0
        · have hsl : ∃ A7 c7, u13 = .slice A7 0 c7 := by
            rcases unhide HP with ⟨-, -, xs, own, -⟩ | ⟨-, bl, cp, T⟩
            · rw [← hK, hK0] at own
              rcases own.2 with ⟨h2, -⟩ | ⟨b, cap, cur, h2, -⟩
              · exact ⟨_, _, h2⟩
              · exact ⟨_, _, h2⟩
            · have own := T.own
              rw [← hK, hK0] at own
              rcases own.2 with ⟨h2, -⟩ | ⟨b, cap, cur, h2, -⟩
              · exact ⟨_, _, h2⟩
              · exact ⟨_, _, h2⟩
          obtain ⟨A7, c7, rfl⟩ := hsl
          clear hK
          go_wp2
          go_ret
          exact ⟨rfl, unhide HER⟩
        · rcases unhide HP with ⟨hq0, -, xs, own, hxs⟩ | ⟨hq0, bl2, cp2, TB⟩
          · rw [← hK] at own hxs
            obtain ⟨g2, c2', rfl, hb1, hb2, hc1, hc2, hcell⟩ := row_open own (by omega)
            obtain ⟨A7, c7, h7⟩ := hxs 0 (by omega)
            have hc0 := (hcell 0 (by omega)).trans h7
            clear hcell own hxs hK
            go_wp2
            go_ret
            exact ⟨rfl, unhide HER⟩
          · rw [← hK] at TB
            obtain ⟨g2, c7, rfl, hc7, TD⟩ := TB.done (by omega) (fun i j => Wm.fpow_lt (Wm.xor_lt (unhide HL8 _) (unhide HL82 _)) 254)
            have hc0 := TD.hd 0 (by omega)
            have hKB : ((K : Int) == 0) = false := by rw [beq_eq_false_iff_ne]; omega
            have hqB : ((q : Int) == 0) = false := by rw [beq_eq_false_iff_ne]; omega
            have HTD := hide TD
            clear TB TD
            obtain ⟨u, hu⟩ : ∃ u, u = min K q := ⟨_, rfl⟩
            by_cases hmin : q < K
            · have hminI : (q : Int) < (K : Int) := by omega
              clear hK hu
              have HCS := hide (Ctt.start (n := q) (l := q) (unhide HP).ext (unhide HTD) (by omega) (by omega))
              go_wp2
              go_loopw [109] (fun i wz => ∃ x : Nat, x ≤ q ∧ i = .int .i64 x ∧ Hid (Ctt w4 wz g2 q x q q bl2 cp2 (fun i j => crsM la lb ((pk sr n).getD i 0) ((pk sc m).getD j 0)))) (fun i _ => q - (intOf i).toNat)
              case atStart => exact ⟨0, Nat.zero_le _, rfl, HCS⟩
              case round =>
                obtain ⟨x, hx, rfl, HC⟩ := hrel
                by_cases hlt : x < q
                · have hcx := (unhide HC).hd2 x (Nat.le_refl _) hlt
                  have hfx := (unhide HC).hd_f x hlt
                  obtain ⟨hp1, hp2⟩ := (unhide HC).cap x hlt
                  have HCN := hide ((unhide HC).cut hlt)
                  generalize bl2 x = bx at *
                  generalize cp2 x = cx at *
                  go_wp2
                  go_roundw
                  case rel => exact ⟨x + 1, by omega, by go_num, HCN⟩
                  case measure => simp [intOf]; omega
                · obtain rfl : q = x := by omega
                  have CD := hide (Det_any _ q c7 _ _ _ _ wr (unhide HC).tab (by omega))
                  have HEC := hide ((unhide HE4).trans (unhide HC).ext)
                  have hx0 : detErr q (fun _ => q) = 0 := by
                    unfold detErr
                    rw [if_neg (by rw [chkM_const (by omega) (by omega) (by omega) (by omega)]; decide), if_neg (by simp)]
                  have HX0 := hide hx0
                  clear hx0
                  go_wp2_with fail
                  refine (unhide CD).mono ?_
                  rintro e w9 ⟨ho, E9⟩
                  have HE9 := hide ((unhide HEC).trans E9)
                  clear CD E9
                  rcases ho with ⟨hne, -⟩ | ⟨-, -, -, d, hd8, rfl, -, hnull⟩
                  · exact absurd (unhide HX0) hne
                  have hd0 : d ≠ 0 := fun h0 => by
                    obtain ⟨v, ⟨i, hi, hv⟩, hs⟩ := hnull h0
                    have HKK := unhide HK
                    have HQQ := unhide HQ
                    refine hv (crs_null (unhide HL8) (unhide HL82) (unhide HGA) (unhide HGB) (unhide HMX) (sr := sr) (sc := sc) (n := q) (by rw [unhide HL]; omega) (by rw [unhide HL2]; omega) (v := v) ?_ i hi)
                    rw [unhide HL, unhide HL2]
                    exact hs
                  have hdB : ((d : Int) != 0) = true := by rw [bne_iff_ne]; omega
                  clear hnull
                  go_wp2
                  go_ret
                  exact ⟨rfl, unhide HE9⟩
            · have hminI : ¬ (q : Int) < (K : Int) := by omega
              clear hK hu
              have HCS := hide (Ctt.start (n := K) (l := K) (unhide HP).ext (unhide HTD) (by omega) (by omega))
              go_wp2
              go_loopw [109] (fun i wz => ∃ x : Nat, x ≤ K ∧ i = .int .i64 x ∧ Hid (Ctt w4 wz g2 K x K q bl2 cp2 (fun i j => crsM la lb ((pk sr n).getD i 0) ((pk sc m).getD j 0)))) (fun i _ => K - (intOf i).toNat)
              case atStart => exact ⟨0, Nat.zero_le _, rfl, HCS⟩
              case round =>
                obtain ⟨x, hx, rfl, HC⟩ := hrel
                by_cases hlt : x < K
                · have hcx := (unhide HC).hd2 x (Nat.le_refl _) hlt
                  have hfx := (unhide HC).hd_f x hlt
                  obtain ⟨hp1, hp2⟩ := (unhide HC).cap x hlt
                  have HCN := hide ((unhide HC).cut hlt)
                  generalize bl2 x = bx at *
                  generalize cp2 x = cx at *
                  go_wp2
                  go_roundw
                  case rel => exact ⟨x + 1, by omega, by go_num, HCN⟩
                  case measure => simp [intOf]; omega
                · obtain rfl : K = x := by omega
                  have CD := hide (Det_any _ K c7 _ _ _ _ wr (unhide HC).tab (by omega))
                  have HEC := hide ((unhide HE4).trans (unhide HC).ext)
                  have hx0 : detErr K (fun _ => K) = 0 := by
                    unfold detErr
                    rw [if_neg (by rw [chkM_const (by omega) (by omega) (by omega) (by omega)]; decide), if_neg (by simp)]
                  have HX0 := hide hx0
                  clear hx0
                  go_wp2_with fail
                  refine (unhide CD).mono ?_
                  rintro e w9 ⟨ho, E9⟩
                  have HE9 := hide ((unhide HEC).trans E9)
                  clear CD E9
                  rcases ho with ⟨hne, -⟩ | ⟨-, -, -, d, hd8, rfl, -, hnull⟩
                  · exact absurd (unhide HX0) hne
                  have hd0 : d ≠ 0 := fun h0 => by
                    obtain ⟨v, ⟨i, hi, hv⟩, hs⟩ := hnull h0
                    have HKK := unhide HK
                    have HQQ := unhide HQ
                    refine hv (crs_null (unhide HL8) (unhide HL82) (unhide HGA) (unhide HGB) (unhide HMX) (sr := sr) (sc := sc) (n := K) (by rw [unhide HL]; omega) (by rw [unhide HL2]; omega) (v := v) ?_ i hi)
                    rw [unhide HL, unhide HL2]
                    exact hs
                  have hdB : ((d : Int) != 0) = true := by rw [bne_iff_ne]; omega
                  clear hnull
                  go_wp2
                  go_ret
                  exact ⟨rfl, unhide HE9⟩
--}
end Go.Proofs.Ytifkphlbjjdigaa

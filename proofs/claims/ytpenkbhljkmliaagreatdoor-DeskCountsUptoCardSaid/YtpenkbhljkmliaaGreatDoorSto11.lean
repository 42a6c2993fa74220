/-
  The contract of (*Store).newest.
-/
import Derived.Test.YtpenkbhljkmliaaGreatDoorSto10
import Derived.Test.YtpenkbhljkmliaaGreatDoorSto7
import Derived.Test.YtpenkbhljkmliaaGreatDoorSto3
import Derived.Test.YtpenkbhljkmliaaGreatDoorPiece9
set_option linter.unusedVariables false
set_option linter.unusedSimpArgs false
namespace Go.Proofs.YtpenkbhljkmliaaGreatDoor
open Go.RowKit Go.BigFrame

/-- Stamps as cells. -/
def sts : List Nat → List Value
  | [] => []
  | t :: l => .int .i64 (t : Int) :: .int .i64 0 :: sts l
theorem sts_length : ∀ l : List Nat, (sts l).length = l.length * 2
  | [] => rfl
  | e :: l => by simp only [sts, List.length_cons, sts_length l]; omega
theorem sts_append : ∀ l m : List Nat, sts l ++ sts m = sts (l ++ m)
  | [], _ => rfl
  | e :: l, m => by simp only [sts, List.cons_append, sts_append l m]
theorem sts_get : ∀ (l : List Nat) (j : Nat), j < l.length → (sts l)[j * 2]? = some (.int .i64 ((l.getD j 0 : Nat) : Int)) ∧ (sts l)[j * 2 + 1]? = some (.int .i64 0)
  | [], j, h => by simp at h
  | e :: l, 0, _ => by simp [sts]
  | e :: l, j + 1, h => by
    have := sts_get l j (by simpa using h)
    rw [show (j + 1) * 2 = j * 2 + 1 + 1 by omega]
    simpa [sts] using this
theorem stampR : EInfo Tryz.prog 158 65 (.agg #[.int .i64 0, .int .i64 0]) 2 16 := EInfo.mk_ Tryz.underlying158 (by kernel_rfl) rfl (by omega)
theorem strU : EInfo Tryz.prog 22 9 (.string ⟨#[]⟩) 1 16 := EInfo.mk_ Tryz.underlying22 (by kernel_rfl) rfl (by omega)
theorem stampsOf_snoc (σ : Sto) (key : Nat) (l : List Nat) {x : Nat} (h : x < l.length) : σ.stampsOf key (l.take (x + 1)) = σ.stampsOf key (l.take x) ++ (σ.kept (l.getD x 0) key).map (·.1) := by
  rw [take_snoc l 0 h]
  unfold Sto.stampsOf
  rw [List.flatMap_append]
  simp
theorem Made.rowU {w : World} {base e sz n g c : Nat} {xs : List Value} (h : Made w base e sz (.slice (some ⟨g, 0, none⟩) n c) n xs) : Row w (some ⟨g, 0, none⟩) n sz xs := by
  obtain ⟨A, c', hv, R, -⟩ := h.open_
  injection hv with hv
  rw [hv]; exact R
/-- The variable 'best', at the block behind wq. -/
def bestText (b : Option (Nat × ByteArray)) : ByteArray := match b with | none => ⟨#[]⟩ | some p => p.2
def bestAt (b : Option (Nat × ByteArray)) : Nat := match b with | none => 0 | some p => p.1
structure BestAt (wq wr : World) (b : Option (Nat × ByteArray)) : Prop where
  ext : Ext wq wr
  lt : wq.heap.size < wr.heap.size
  c0 : wr.cell? ⟨wq.heap.size, 0, none⟩ = some (.int .i64 (bestAt b : Int))
  c1 : wr.cell? ⟨wq.heap.size, 1, none⟩ = some (.int .i64 0)
  fr : ∀ j, wr.frozen? ⟨wq.heap.size, j, none⟩ = false
theorem BestAt.keep {wq wr wr' : World} {b : Option (Nat × ByteArray)} (B : BestAt wq wr b) (E : Ext wr wr') : BestAt wq wr' b where
  ext := B.ext.trans E
  lt := Nat.lt_of_lt_of_le B.lt E.size
  c0 := E.keep B.c0
  c1 := E.keep B.c1
  fr j := (E.frozen (p := ⟨wq.heap.size, j, none⟩) B.lt).trans (B.fr j)
theorem BestAt.set {wq wr : World} {b : Option (Nat × ByteArray)} (B : BestAt wq wr b) (p : Nat × ByteArray) : BestAt wq ((wr.setCell ⟨wq.heap.size, 0, none⟩ (.int .i64 (p.1 : Int))).setCell ⟨wq.heap.size, 1, none⟩ (.int .i64 0)) (some p) where
  ext := (B.ext.setCell (Nat.le_refl _) _).setCell (Nat.le_refl _) _
  lt := by simpa using B.lt
  c0 := by
    rw [set_cell_g _ (by omega)]
    exact World.cell?_setCell_same' _ _ _ (by rw [B.c0]; rfl)
  c1 := World.cell?_setCell_same' _ _ _ (by rw [set_cell_g _ (by omega), B.c1]; rfl)
  fr j := by rw [World.frozen?_setCell, World.frozen?_setCell]; exact B.fr j
/-- The strings by a stamp, of the nodes listed. -/
def colP (σ : Sto) (key t : Nat) (l : List Nat) : List ByteArray := (List.range σ.N).map fun j => if j ∈ l then Sto.findP (σ.kept j key) t else ByteArray.empty
theorem colP_none (σ : Sto) (key t : Nat) : colP σ key t [] = List.replicate σ.N ByteArray.empty := by
  apply List.ext_getElem (by simp [colP])
  intro j h1 h2
  simp [colP]
theorem colP_all (σ : Sto) (key t : Nat) : colP σ key t σ.ups = σ.colS key t := by
  unfold colP Sto.colS
  refine List.map_congr_left fun j hj => ?_
  have hjN := List.mem_range.1 hj
  by_cases h : σ.down j = true
  · rw [if_pos h, if_neg (fun hm => by rw [Sto.ups_up hm] at h; cases h)]
  · rw [if_neg h, if_pos (Sto.mem_ups.2 ⟨hjN, by simpa using h⟩)]
theorem colP_set (σ : Sto) (key t : Nat) (l : List Nat) {x : Nat} (h : x < l.length) : (colP σ key t (l.take x)).set (l.getD x 0) (Sto.findP (σ.kept (l.getD x 0) key) t) = colP σ key t (l.take (x + 1)) := by
  apply List.ext_getElem (by simp [colP])
  intro j h1 h2
  rw [List.getElem_set]
  simp only [colP, List.getElem_map, List.getElem_range]
  rw [take_snoc l 0 h]
  by_cases e : l.getD x 0 = j
  · subst e; rw [if_pos rfl, if_pos (by simp)]
  · rw [if_neg e]
    by_cases c : j ∈ l.take x
    · rw [if_pos c, if_pos (List.mem_append_left _ c)]
    · rw [if_neg c, if_neg (fun hm => by
        rcases List.mem_append.1 hm with hm | hm
        · exact c hm
        · exact e (List.mem_singleton.1 hm).symm)]
theorem findP_size {σ : Sto} (Fi : Fine σ) {i key t : Nat} (hi : i < σ.N) (hk : key < 3) : (Sto.findP (σ.kept i key) t).size ≤ 65 := by
  unfold Sto.findP
  cases h : (σ.kept i key).find? (fun e => e.1 == t) with
  | none => show (0 : Nat) ≤ 65; omega
  | some e => exact (Fi.sz i key e hi hk (List.mem_of_find?_eq_some h)).2
theorem colS_small {σ : Sto} (Fi : Fine σ) {key t : Nat} (hk : key < 3) : ∀ s ∈ σ.colS key t, (s.size : Int) ≤ 9223372036854775807 := by
  intro s hs
  obtain ⟨j, hj, rfl⟩ := List.mem_map.1 hs
  have hjN := List.mem_range.1 hj
  split
  · show ((0 : Nat) : Int) ≤ _; omega
  · have := findP_size Fi (t := t) hjN hk
    omega
set_option maxHeartbeats 400000 in
theorem newr_ok (an bn : Nat) (w : World) : Calls Tryz.prog 91 #[.agg #[.int .i64 (an : Int), .int .i64 0], .agg #[.int .i64 (bn : Int), .int .i64 0]] w fun e w' => e = .returned (.bool (decide (bn < an))) ∧ Ext w w' := by
  by_cases h1 : bn < an
  · rw [decide_eq_true h1]
    have hI : (bn : Int) < (an : Int) := by omega
    clear h1
    go_enter Tryz.func91, Tryz.ntmps91
    go_wp2
    go_ret
    exact ⟨rfl, ((Ext.refl _).alloc _).alloc _⟩
  · rw [decide_eq_false h1]
    by_cases h2 : an < bn
    · have h3 : ((an : Int) == (bn : Int)) = false := by rw [beq_eq_false_iff_ne]; omega
      have hI : ¬ (bn : Int) < (an : Int) := by omega
      clear h1 h2
      go_enter Tryz.func91, Tryz.ntmps91
      go_wp2
      go_ret
      exact ⟨rfl, ((Ext.refl _).alloc _).alloc _⟩
    · obtain rfl : an = bn := by omega
      clear h1 h2
      go_enter Tryz.func91, Tryz.ntmps91
      go_wp2
      go_ret
      exact ⟨rfl, ((Ext.refl _).alloc _).alloc _⟩
/-- What newest answers. -/
def newV : Option (Nat × ByteArray) → Value
  | none => .tuple #[.agg #[.int .i64 0, .int .i64 0], .string ⟨#[]⟩, .bool false]
  | some p => .tuple #[.agg #[.int .i64 (p.1 : Int), .int .i64 0], .string p.2, .bool true]
theorem stampsOf_len {σ : Sto} (Fi : Fine σ) (key : Nat) (hk : key < 3) : ∀ l : List Nat, (∀ i ∈ l, i < σ.N) → (σ.stampsOf key l).length ≤ l.length * 1000000
  | [], _ => by simp [Sto.stampsOf]
  | i :: l, h => by
    have h1 := stampsOf_len Fi key hk l fun j hj => h j (List.mem_cons_of_mem _ hj)
    have h2 := Fi.len i key (h i List.mem_cons_self) hk
    have : σ.stampsOf key (i :: l) = (σ.kept i key).map (·.1) ++ σ.stampsOf key l := by simp [Sto.stampsOf]
    rw [this, List.length_append, List.length_map, List.length_cons]
    omega

set_option maxRecDepth 100000 in
set_option maxHeartbeats 8000000 in
theorem newest_ok {b0 p g : Nat} {w : World} {v : Nat → Nat → Value} {σ : Sto} (S : St b0 w p g v σ) (Fi : Fine σ) (key : Nat) (hkey : key < 3) :
    Calls Tryz.prog 88 #[.pointer (some ⟨p, 0, none⟩), .int .i64 (key : Int)] w fun e w' => e = .returned (newV (σ.newest key)) ∧ Ext w w' := by
  have HS := hide S
  have HF := hide Fi
  have CU := hide (fun W (E : Ext w W) => up_ok (S.keep E) Fi.n10)
  have hUN : σ.ups.length ≤ 10 := Nat.le_trans σ.ups_le Fi.n10
  clear S Fi
  have HUN := hide hUN
  obtain ⟨W0, hW0⟩ : ∃ W0, W0 = w.alloc (.cells #[.int .i64 0, .int .i64 0] 65) := ⟨_, rfl⟩
  have HW0 := hide hW0
  have E0 : Ext w W0 := by rw [hW0]; exact (Ext.refl w).alloc _
  have r0 : W0.cell? ⟨w.heap.size, 0, none⟩ = some (.int .i64 0) := by rw [hW0, new_cell]; rfl
  have r1 : W0.cell? ⟨w.heap.size, 1, none⟩ = some (.int .i64 0) := by rw [hW0, new_cell]; rfl
  have rf : ∀ j, W0.frozen? ⟨w.heap.size, j, none⟩ = false := fun j => by rw [hW0]; exact new_frozen _ _ _ _
  have R0 := hide r0
  have R1 := hide r1
  have RF := hide rf
  have HE0 := hide E0
  clear r0 r1 rf E0 hW0
  go_enter Tryz.func88, Tryz.ntmps88
  go_wp2_with fail
  rw [← unhide HW0]
  refine (unhide CU _ (unhide HE0)).mono ?_
  rintro e w1 ⟨⟨u, rfl, own⟩, E1⟩
  obtain ⟨A, cA, rfl, RU, hcA, hcm, -⟩ := row_of_own own
  have HRU := hide RU
  have HE1 := hide E1
  clear RU own E1 hcm
  obtain ⟨U, hU⟩ : ∃ U, U = σ.ups.length := ⟨_, rfl⟩
  rw [← hU] at HRU hUN hcA ⊢
  have HU := hide hU
  clear hU
  go_wp2
  go_loopw [7, 25] (fun u i wr => ∃ x : Nat, x ≤ U ∧ i = .int .i64 x ∧ Hid (wr.ownsRow w1.heap.size 65 2 u (σ.stampsOf key (σ.ups.take x)).length (sts (σ.stampsOf key (σ.ups.take x)))) ∧ Ext w1 wr) (fun _ i _ => U - (intOf i).toNat)
  case atStart => exact ⟨0, Nat.zero_le _, rfl, hide (World.ownsRow_nil _ _ _ _), Ext.refl w1⟩
  case round =>
    obtain ⟨x, hx, rfl, HOW, hext⟩ := hrel
    by_cases hlt : x < U
    · obtain ⟨i, hi⟩ : ∃ i, i = σ.ups.getD x 0 := ⟨_, rfl⟩
      have hxU : x < σ.ups.length := by rw [← unhide HU]; exact hlt
      have hiN : i < σ.N := by rw [hi]; exact Sto.ups_lt (getD_mem σ.ups 0 hxU)
      obtain ⟨bu, ou, rfl, hbu, hcu⟩ := ((unhide HRU).keep hext).nat hlt
      rw [← hi] at hcu
      have HI := hide hi
      have S1 := (unhide HS).keep (((unhide HE0).trans (unhide HE1)).trans hext)
      have n4 : wr.cell? ⟨p, 4, none⟩ = some (.slice (some ⟨g, 0, none⟩) σ.N σ.N) := S1.cnodes
      have kc := S1.ckept i key hiN hkey
      obtain ⟨Ak, ck, hv, RK, -⟩ := (unhide HS).row hiN hkey
      rw [hv] at kc
      have HRK := hide RK
      have hlen := (unhide HF).len i key hiN hkey
      obtain ⟨L, hL⟩ : ∃ L, L = (σ.kept i key).length := ⟨_, rfl⟩
      rw [← hL] at kc hlen HRK
      have HL := hide hL
      have hiI : (i : Int) < (σ.N : Int) := by omega
      have hkI : (key : Int) < 3 := by omega
      have hxI : (x : Int) < (U : Int) := by omega
      have hbnd := stampsOf_len (unhide HF) key hkey (σ.ups.take x) fun j hj => Sto.ups_lt (List.mem_of_mem_take hj)
      rw [List.length_take] at hbnd
      have HBN := hide (Nat.le_trans hbnd (Nat.mul_le_mul_right 1000000 (show min x σ.ups.length ≤ 10 by omega)))
      obtain ⟨wo, hwo⟩ : ∃ wo, wo = wr := ⟨_, rfl⟩
      subst hwo
      clear S1 hv RK hL hi hbnd
      have HLEN := hide hlen
      clear hlen
      go_wp2
      go_loopw [7, 40] (fun u j wz => ∃ y : Nat, y ≤ L ∧ j = .int .i64 y ∧ Hid (wz.ownsRow w1.heap.size 65 2 u ((σ.stampsOf key (σ.ups.take x)).length + y) (sts (σ.stampsOf key (σ.ups.take x) ++ ((σ.kept i key).take y).map (·.1)))) ∧ Ext w1 wz) (fun _ j _ => L - (intOf j).toNat)
      case atStart => exact ⟨0, Nat.zero_le _, rfl, (by simpa using HOW), hext⟩
      case round =>
        obtain ⟨y, hy, rfl, HOY, hexty⟩ := hrel
        by_cases hly : y < L
        · obtain ⟨bk, ok, rfl, hbk, ck0, ck1, ck2⟩ := ((unhide HRK).keep (((unhide HE0).trans (unhide HE1)).trans hexty)).kp hly
          have hyI : (y : Int) < (L : Int) := by omega
          have HT := hide (show sts (σ.stampsOf key (σ.ups.take x) ++ ((σ.kept i key).take (y + 1)).map (·.1)) = sts (σ.stampsOf key (σ.ups.take x) ++ ((σ.kept i key).take y).map (·.1)) ++ [.int .i64 ((kd (σ.kept i key) y).1 : Int), .int .i64 0] from by
            rw [take_snoc _ (0, ByteArray.empty) (by rw [← unhide HL]; exact hly), List.map_append, ← List.append_assoc, ← sts_append]; rfl)
          have hbd : ((σ.stampsOf key (σ.ups.take x)).length + y + 1) * 16 ≤ 140737488355328 ∧ (σ.stampsOf key (σ.ups.take x)).length + y + 1 ≤ 9223372036854775807 := by have h1 := unhide HBN; have h2 := unhide HLEN; omega
          have HBD := hide hbd
          clear hbd
          generalize (kd (σ.kept i key) y).1 = t at *
          generalize (kd (σ.kept i key) y).2 = s at *
          have hext2 := hide (hexty.alloc (.cells #[.int .i64 (t : Int), .int .i64 0, .string s] 135))
          go_wp2_with (at_builtin; refine stop ?_)
          unfold Stop
          refine wpList_app (w := wr.alloc (.cells #[.int .i64 (t : Int), .int .i64 0, .string s] 135)) (cs := #[.int .i64 (t : Int), .int .i64 0]) rfl _ _ 158 (by rfl) 65 stampR (unhide hext2) _ _ _ (by rfl) (row_ext (unhide HOY) ((Ext.refl _).alloc _)) 1 1 (by show Value.slice (some ⟨wr.heap.size + 1, 0, none⟩) 1 1 = _; simp) rfl rfl (unhide HBD) ?_
          intro v' w6 hown6 hext6 hg6
          have HOY2 : Hid (w6.ownsRow w1.heap.size 65 2 v' ((σ.stampsOf key (σ.ups.take x)).length + (y + 1)) (sts (σ.stampsOf key (σ.ups.take x) ++ ((σ.kept i key).take (y + 1)).map (·.1)))) := hide (by rw [unhide HT]; exact hown6)
          clear hown6 hg6
          have hsum : IntKind.i64.wrap ((y : Int) + 1) = (y : Int) + 1 := IntWalk.i64_in _ (by have := unhide HLEN; omega)
          go_wp2
          go_roundw
          case rel => exact ⟨y + 1, by omega, by go_num, HOY2, hext6⟩
          case measure => simp [intOf]; omega
        · obtain rfl : L = y := by omega
          have HOW2 := hide (show wr.ownsRow w1.heap.size 65 2 u7 (σ.stampsOf key (σ.ups.take (x + 1))).length (sts (σ.stampsOf key (σ.ups.take (x + 1)))) from by
            have h := unhide HOY
            rw [unhide HL, List.take_length] at h
            rw [stampsOf_snoc σ key σ.ups hxU, ← unhide HI, List.length_append, List.length_map]
            exact h)
          go_wp2
          go_roundw
          case rel => exact ⟨x + 1, by omega, by go_num, HOW2, hexty⟩
          case measure => simp [intOf]; omega
    · obtain rfl : U = x := by omega
      rw [unhide HU, List.take_length] at HOW
      obtain ⟨As, cs, rfl, RS, hcs, hcm, -⟩ := row_of_own (unhide HOW)
      have HRS := hide RS
      have HE2 := hide ((unhide HE1).trans hext)
      have HSN := hide (show (σ.stamps key).length ≤ 10 * 1000000 from Nat.le_trans (stampsOf_len (unhide HF) key hkey σ.ups fun j hj => Sto.ups_lt hj) (Nat.mul_le_mul_right 1000000 (unhide HUN)))
      clear RS HOW hcm
      obtain ⟨SL, hSL⟩ : ∃ SL, SL = σ.stamps key := ⟨_, rfl⟩
      rw [show σ.stampsOf key σ.ups = SL from hSL.symm] at HRS hcs ⊢
      rw [← hSL] at HSN
      have HSL := hide hSL
      obtain ⟨n, hn⟩ : ∃ n, n = SL.length := ⟨_, rfl⟩
      rw [← hn] at HRS HSN hcs ⊢
      have HN := hide hn
      clear hSL hn
      obtain ⟨wq, hwq⟩ : ∃ wq, wq = wr := ⟨_, rfl⟩
      subst hwq
      have EB := (Ext.refl wq).alloc (.cells #[.int .i64 0, .int .i64 0] 65)
      have b0c : (wq.alloc (.cells #[.int .i64 0, .int .i64 0] 65)).cell? ⟨wq.heap.size, 0, none⟩ = some (.int .i64 0) := by rw [new_cell]; rfl
      have b1c : (wq.alloc (.cells #[.int .i64 0, .int .i64 0] 65)).cell? ⟨wq.heap.size, 1, none⟩ = some (.int .i64 0) := by rw [new_cell]; rfl
      have bf : ∀ j, (wq.alloc (.cells #[.int .i64 0, .int .i64 0] 65)).frozen? ⟨wq.heap.size, j, none⟩ = false := fun j => new_frozen _ _ _ _
      have bsz : wq.heap.size < (wq.alloc (.cells #[.int .i64 0, .int .i64 0] 65)).heap.size := by simp
      have HB0 := hide (show BestAt wq (wq.alloc (.cells #[.int .i64 0, .int .i64 0] 65)) none from ⟨EB, bsz, b0c, b1c, bf⟩)
      clear EB b0c b1c bf bsz hext
      go_wp2
      go_loopw [13, 14, 53] (fun tx fd i wr => ∃ x : Nat, x ≤ n ∧ i = .int .i64 x ∧ ∃ b, Hid (b = σ.newestOf key (SL.take x)) ∧ tx = .string (bestText b) ∧ fd = .bool b.isSome ∧ Hid (BestAt wq wr b)) (fun _ _ i _ => n - (intOf i).toNat)
      case atStart => exact ⟨0, Nat.zero_le _, rfl, none, hide rfl, rfl, rfl, HB0⟩
      case round =>
        obtain ⟨x, hx, rfl, b, HBN, rfl, rfl, HBA⟩ := hrel
        by_cases hlt : x < n
        · obtain ⟨bs, os, hAs, hbs, hsc⟩ := ((unhide HRS).keep (unhide HBA).ext).2 (by omega)
          subst hAs
          have hsx := sts_get SL x (by rw [← unhide HN]; exact hlt)
          have s0 := (hsc (x * 2) (by omega)).trans hsx.1
          have s1 := (hsc (x * 2 + 1) (by omega)).trans hsx.2
          rw [← Nat.add_assoc] at s1
          have HNX := hide (show σ.newestOf key (SL.take (x + 1)) = σ.newStep key b (SL.getD x 0) from by rw [take_snoc SL 0 (by rw [← unhide HN]; exact hlt), Sto.newestOf_snoc, ← unhide HBN])
          generalize SL.getD x 0 = t at *
          have hxI : (x : Int) < (n : Int) := by omega
          have hsum : IntKind.i64.wrap ((x : Int) + 1) = (x : Int) + 1 := IntWalk.i64_in _ (by have := unhide HSN; omega)
          have bc0 := (unhide HBA).c0
          have bc1 := (unhide HBA).c1
          have bfr := (unhide HBA).fr
          have bcA0 := fun o => ((Ext.refl wr).alloc o).keep bc0
          have bcA1 := fun o => ((Ext.refl wr).alloc o).keep bc1
          clear hsc hsx
          have CN := hide (fun (t0 : Nat) W => newr_ok t t0 W)
          have EA := (Ext.refl wr).alloc (.cells #[.int .i64 (t : Int), .int .i64 0] 65)
          have HEA := hide EA
          have a0 : (wr.alloc (.cells #[.int .i64 (t : Int), .int .i64 0] 65)).cell? ⟨wr.heap.size, 0, none⟩ = some (.int .i64 (t : Int)) := by rw [new_cell]; rfl
          have a1 : (wr.alloc (.cells #[.int .i64 (t : Int), .int .i64 0] 65)).cell? ⟨wr.heap.size, 1, none⟩ = some (.int .i64 0) := by rw [new_cell]; rfl
          have HA0 := hide a0
          have HA1 := hide a1
          clear EA a0 a1
          have hcases : (∃ t0 x0, b = some (t0, x0) ∧ t ≤ t0) ∨ ((∃ t0 x0, b = some (t0, x0) ∧ t0 < t) ∨ b = none) := by
            cases b with
            | none => exact .inr (.inr rfl)
            | some pr =>
              obtain ⟨t0, x0⟩ := pr
              by_cases h : t ≤ t0
              · exact .inl ⟨t0, x0, rfl, h⟩
              · exact .inr (.inl ⟨t0, x0, rfl, by omega⟩)
          rcases hcases with ⟨t0, x0, rfl, hle⟩ | hgo
          · have CN2 := hide (unhide CN t0)
            rw [show decide (t0 < t) = false from decide_eq_false (by omega)] at CN2
            have HB2 := hide (show (some (t0, x0) : Option (Nat × ByteArray)) = σ.newestOf key (SL.take (x + 1)) from by
              rw [unhide HNX]; unfold Sto.newStep; simp only [decide_eq_true hle, if_true])
            have bcA0 : ∀ o, (wr.alloc o).cell? ⟨wq.heap.size, 0, none⟩ = some (.int .i64 (t0 : Int)) := bcA0
            clear HNX hle CN bc0 bc1 bfr
            go_wp2_with fail
            refine (unhide CN2 _).mono ?_
            rintro e w3 ⟨rfl, E3⟩
            have HBA3 := hide ((unhide HBA).keep ((unhide HEA).trans E3))
            clear E3 CN2 bcA0 bcA1
            go_wp2
            go_roundw
            case rel => exact ⟨x + 1, by omega, by go_num, _, HB2, rfl, rfl, HBA3⟩
            case measure => simp [intOf]; omega
          · have HN2 := hide (show σ.newStep key b t = if joinErr (σ.colS key t) (σ.K : Int) = 0 then some (t, strN (joinText (σ.colS key t) σ.K)) else b from by
              unfold Sto.newStep
              rcases hgo with ⟨t0, x0, rfl, hlt'⟩ | rfl
              · simp only [decide_eq_false (show ¬ t ≤ t0 by omega), Bool.false_eq_true, if_false]
              · simp only [Bool.false_eq_true, if_false])
            have hmk : ∀ w : World, (Instr.makeSlice 22 (.int .i64 (σ.N : Int)) (.int .i64 (σ.N : Int))).run Tryz.prog w = .ok (.slice (some ⟨w.heap.size, 0, none⟩) σ.N σ.N) (w.alloc (.cells (madeCells #[.string ⟨#[]⟩] σ.N) 9)) := fun w => by
              have hn10 := (unhide HF).n10
              have := make_run strU σ.N σ.N (Nat.le_refl _) (by omega) (by omega) w
              rw [Nat.mul_one] at this
              exact this
            have hstart : ∀ wn, Ext wr wn → wn.cell? ⟨wr.heap.size, 0, none⟩ = some (.int .i64 (t : Int)) → wn.cell? ⟨wr.heap.size, 1, none⟩ = some (.int .i64 0) → True := fun _ _ _ _ => trivial
            have HBT := hide (show b = none ∨ ∃ pr, b = some pr from by cases b with | none => exact .inl rfl | some pr => exact .inr ⟨pr, rfl⟩)
            obtain ⟨txt, htxt⟩ : ∃ txt, txt = bestText b := ⟨_, rfl⟩
            rw [← htxt]
            have HTXT := hide htxt
            clear htxt
            rcases hgo with ⟨t0, x0, rfl, hlt'⟩ | rfl
            focus
              have CN2 := hide (unhide CN t0)
              rw [show decide (t0 < t) = true from decide_eq_true hlt'] at CN2
              have bcA0 : ∀ o, (wr.alloc o).cell? ⟨wq.heap.size, 0, none⟩ = some (.int .i64 (t0 : Int)) := bcA0
              clear CN bc0 bc1 bfr hlt'
              go_wp2_with fail
              refine (unhide CN2 _).mono ?_
              rintro e wn ⟨rfl, E3⟩
              have HEN := hide ((unhide HEA).trans E3)
              have HNA0 := hide (E3.keep (unhide HA0))
              have HNA1 := hide (E3.keep (unhide HA1))
              clear CN2 E3 bcA0 bcA1 HEA HA0 HA1
              have HN4 := hide (((unhide HS).keep ((((unhide HE0).trans (unhide HE2)).trans (unhide HBA).ext).trans (unhide HEN))).cnodes)
              have n4 : wn.cell? ⟨p, 4, none⟩ = some (.slice (some ⟨g, 0, none⟩) σ.N σ.N) := unhide HN4
              go_wp2_with fail
            rotate_left
            focus
              clear CN bc0 bc1 bfr bcA0 bcA1
              have n4 : ∀ o, (wr.alloc o).cell? ⟨p, 4, none⟩ = some (.slice (some ⟨g, 0, none⟩) σ.N σ.N) := fun o => (((unhide HS).keep ((((unhide HE0).trans (unhide HE2)).trans (unhide HBA).ext).alloc o))).cnodes
              go_wp2_with fail
              clear n4
              obtain ⟨wn, hwn⟩ : ∃ wn, wn = wr.alloc (.cells #[.int .i64 (t : Int), .int .i64 0] 65) := ⟨_, rfl⟩
              rw [← hwn] at HEA HA0 HA1 ⊢
              have hsz : wn.heap.size = wr.heap.size + 1 := by rw [hwn]; simp
              rw [← hsz]
              clear hsz
              have HEN := HEA
              have HNA0 := HA0
              have HNA1 := HA1
              clear hwn HEA HA0 HA1
            all_goals
              have HBN3 := hide ((unhide HBA).keep (unhide HEN))
              have EWN := ((unhide HE0).trans (unhide HE2)).trans (unhide HBN3).ext
              have HEW := hide EWN
              have hpw : p < wn.heap.size := Nat.lt_of_lt_of_le (unhide HS).p_hi EWN.size
              have hgw : g < wn.heap.size := Nat.lt_of_lt_of_le (unhide HS).g_hi EWN.size
              have haw : wr.heap.size < wn.heap.size := cell_lt (unhide HNA0)
              have HMK := hide hmk
              have HMM := hide (show Made (wn.alloc (.cells (madeCells #[.string ⟨#[]⟩] σ.N) 9)) wn.heap.size 9 1 (.slice (some ⟨wn.heap.size, 0, none⟩) σ.N σ.N) σ.N (strs (colP σ key t [])) from by
                rw [colP_none, ← strs_replicate]
                exact Made.make _ _ (Nat.le_refl _) (by have := (unhide HF).n10; omega))
              clear EWN
              refine (unhide CU _ ((unhide HEW).alloc _)).mono ?_
              rintro e w5 ⟨⟨u2, rfl, own2⟩, E5⟩
              obtain ⟨A2, c2, rfl, RU2, hc2, hcm2, hb2⟩ := row_of_own own2
              have HRU2 := hide RU2
              have HM5 := hide ((unhide HMM).keep E5)
              have HE5 := hide (((Ext.refl wn).alloc (.cells (madeCells #[.string ⟨#[]⟩] σ.N) 9)).trans E5)
              have HB2A := hide (show ∀ b o, A2 = some ⟨b, o, none⟩ → wn.heap.size < b from fun b o h => by have := (hb2 b o h).1; simp at this; omega)
              clear RU2 own2 hcm2 hb2 HMM E5 hmk
              try clear n4
              try clear HN4
              rw [← unhide HU] at HRU2 hc2 ⊢
              obtain ⟨bl, hbl⟩ : ∃ bl, bl = wn.heap.size := ⟨_, rfl⟩
              obtain ⟨ba, hba⟩ : ∃ ba, ba = wr.heap.size := ⟨_, rfl⟩
              have hMb : Made w5 bl 9 1 (.slice (some ⟨bl, 0, none⟩) σ.N σ.N) σ.N (strs (colP σ key t (σ.ups.take 0))) := by rw [hbl]; exact unhide HM5
              have HMb := hide hMb
              have HPL := hide (show p ≠ bl ∧ g ≠ bl ∧ ba ≠ bl from by omega)
              have HHBL := hide hbl
              have HHBA := hide hba
              have ha0 := (unhide HE5).keep (unhide HNA0)
              have ha1 := (unhide HE5).keep (unhide HNA1)
              rw [← hba] at ha0 ha1
              have HQ0 := hide ha0
              have HQ1 := hide ha1
              clear hMb HM5 ha0 ha1 hpw hgw haw
              rw [← hbl] at HB2A ⊢
              rw [← hba] at ⊢
              clear hbl hba
              go_wp2
              go_loopw [73] (fun i wz => ∃ y : Nat, y ≤ U ∧ i = .int .i64 y ∧ Hid (Only (fun q => q = bl) w5 wz) ∧ Hid (Made wz bl 9 1 (.slice (some ⟨bl, 0, none⟩) σ.N σ.N) σ.N (strs (colP σ key t (σ.ups.take y))))) (fun i _ => U - (intOf i).toNat)
              case atStart => exact ⟨0, Nat.zero_le _, rfl, hide Only.refl, HMb⟩
              case round =>
                obtain ⟨y, hy, rfl, HO, HMy⟩ := hrel
                by_cases hly : y < U
                · obtain ⟨i, hi⟩ : ∃ i, i = σ.ups.getD y 0 := ⟨_, rfl⟩
                  have hyU : y < σ.ups.length := by rw [← unhide HU]; exact hly
                  have hiN : i < σ.N := by rw [hi]; exact Sto.ups_lt (getD_mem σ.ups 0 hyU)
                  obtain ⟨bu, ou, rfl, hbu, hcu⟩ := (unhide HRU2).nat hly
                  rw [← hi] at hcu
                  have hbub := unhide HB2A _ _ rfl
                  have uc := (unhide HO).keepc hcu (by show ¬ bu = bl; omega)
                  have HI := hide hi
                  have EY : Ext wn wr := (unhide HO).ext (unhide HE5) (fun x hx => by rw [hx, unhide HHBL]; exact Nat.le_refl _)
                  have S1 := (unhide HS).keep ((unhide HEW).trans EY)
                  have n4 : wr.cell? ⟨p, 4, none⟩ = some (.slice (some ⟨g, 0, none⟩) σ.N σ.N) := S1.cnodes
                  have kc := S1.ckept i key hiN hkey
                  obtain ⟨Ak, ck, hv, RK, -⟩ := S1.row hiN hkey
                  rw [hv] at kc
                  have q0 := (unhide HO).keepc (unhide HQ0) (unhide HPL).2.2
                  have q1 := (unhide HO).keepc (unhide HQ1) (unhide HPL).2.2
                  have hlen := (unhide HF).len i key hiN hkey
                  have CF := hide (fun W (E : Ext wr W) => find_ok Ak (σ.kept i key).length ck t (σ.kept i key) W (RK.keep E) (by omega))
                  obtain ⟨L, hL⟩ : ∃ L, L = (σ.kept i key).length := ⟨_, rfl⟩
                  rw [← hL] at kc CF
                  obtain ⟨fp, hfp⟩ : ∃ fp, fp = Sto.findP (σ.kept i key) t := ⟨_, rfl⟩
                  rw [← hfp] at CF
                  have HFP := hide hfp
                  have HK := hide (fun W (E : Ext wr W) => show W.cell? ⟨p, 4, none⟩ = some (.slice (some ⟨g, 0, none⟩) σ.N σ.N) ∧ W.cell? ⟨g, i * 4 + 1 + key, none⟩ = some (.slice Ak L ck) ∧ W.cell? ⟨ba, 0, none⟩ = some (.int .i64 (t : Int)) ∧ W.cell? ⟨ba, 1, none⟩ = some (.int .i64 0) from ⟨E.keep n4, E.keep kc, E.keep q0, E.keep q1⟩)
                  have HK2 := hide (fun (W : World) (u : Value) (h : W.cell? ⟨p, 4, none⟩ = some (.slice (some ⟨g, 0, none⟩) σ.N σ.N) ∧ W.cell? ⟨g, i * 4 + 1 + key, none⟩ = some (.slice Ak L ck) ∧ W.cell? ⟨ba, 0, none⟩ = some (.int .i64 (t : Int)) ∧ W.cell? ⟨ba, 1, none⟩ = some (.int .i64 0)) =>
                    show (W.setCell ⟨bl, i, none⟩ u).cell? ⟨p, 4, none⟩ = some (.slice (some ⟨g, 0, none⟩) σ.N σ.N) ∧ (W.setCell ⟨bl, i, none⟩ u).cell? ⟨g, i * 4 + 1 + key, none⟩ = some (.slice Ak L ck) ∧ (W.setCell ⟨bl, i, none⟩ u).cell? ⟨ba, 0, none⟩ = some (.int .i64 (t : Int)) ∧ (W.setCell ⟨bl, i, none⟩ u).cell? ⟨ba, 1, none⟩ = some (.int .i64 0) from
                    ⟨(set_cell_b u (unhide HPL).1).trans h.1, (set_cell_b u (unhide HPL).2.1).trans h.2.1, (set_cell_b u (unhide HPL).2.2).trans h.2.2.1, (set_cell_b u (unhide HPL).2.2).trans h.2.2.2⟩)
                  have hiI : (i : Int) < (σ.N : Int) := by omega
                  have hkI : (key : Int) < 3 := by omega
                  have hyI : (y : Int) < (U : Int) := by omega
                  have hsum : IntKind.i64.wrap ((y : Int) + 1) = (y : Int) + 1 := IntWalk.i64_in _ (by omega)
                  have hgl : bl < wr.heap.size := ((unhide HMy).lt bl rfl).2
                  clear S1 hv RK hL hi hfp hlen EY hcu q0 q1 n4 kc
                  go_wp2
                  go_region_held3 (fun W => W.cell? ⟨p, 4, none⟩ = some (.slice (some ⟨g, 0, none⟩) σ.N σ.N) ∧ W.cell? ⟨g, i * 4 + 1 + key, none⟩ = some (.slice Ak L ck) ∧ W.cell? ⟨ba, 0, none⟩ = some (.int .i64 (t : Int)) ∧ W.cell? ⟨ba, 1, none⟩ = some (.int .i64 0)) (first | exact unhide HK _ (Ext.refl _).drew | exact unhide HK _ E6 | exact unhide HK2 _ _ (unhide HK _ E6)) (first
                    | (go_at_call 105; refine (unhide CF _ (Ext.refl _).drew).mono ?_; rintro e w6 ⟨⟨bo, rfl⟩, E6'⟩; have E6 : Ext wr w6 := Ext.trans (Ext.refl wr).drew E6'; have gk := ((unhide HMy).keep E6).cell hiN; have gf := ((unhide HMy).keep E6).frozen i))
                  have HM2 := hide (show Made (w6.setCell ⟨bl, i, none⟩ (.string fp)) bl 9 1 (.slice (some ⟨bl, 0, none⟩) σ.N σ.N) σ.N (strs (colP σ key t (σ.ups.take (y + 1)))) from by
                    have h := ((unhide HMy).keep E6).set (j := i) (by omega) (.string fp)
                    rw [strs_set, unhide HFP, unhide HI, colP_set σ key t σ.ups hyU, ← unhide HI, ← unhide HFP] at h
                    exact h)
                  have HO2 := hide (((unhide HO).trans (G := fun _ => False) (Only.of_ext E6) fun _ h => h.elim).set (F := fun q => q = bl) (a := ⟨bl, i, none⟩) (.inl rfl) (.string fp))
                  clear E6 E6' gk gf HK HK2 CF uc
                  go_wp2
                  go_roundw
                  case rel => exact ⟨y + 1, by omega, by go_num, HO2, HM2⟩
                  case measure => simp [intOf]; omega
                · obtain rfl : U = y := by omega
                  rw [unhide HU, List.take_length, colP_all] at HMy
                  have EY : Ext wn wr := (unhide HO).ext (unhide HE5) (fun x hx => by rw [hx, unhide HHBL]; exact Nat.le_refl _)
                  have S1 := (unhide HS).keep ((unhide HEW).trans EY)
                  have c1 : wr.cell? ⟨p, 1, none⟩ = some (.int .i64 (σ.K : Int)) := S1.cK
                  have CJ := hide (Join_ok (some ⟨bl, 0, none⟩) σ.N σ.N σ.K (σ.colS key t) wr (unhide HMy).rowU (colS_small (unhide HF) hkey) (unhide HF).k1 (unhide HF).kn (unhide HF).n10)
                  have HBW := hide ((unhide HBN3).keep EY)
                  have q0 := (unhide HO).keepc (unhide HQ0) (unhide HPL).2.2
                  have q1 := (unhide HO).keepc (unhide HQ1) (unhide HPL).2.2
                  clear S1 EY
                  go_wp2_with fail
                  refine (unhide CJ).mono ?_
                  rintro e w7 ⟨rfl, E7⟩
                  have q0 := E7.keep q0
                  have q1 := E7.keep q1
                  have HB7 := hide ((unhide HBW).keep E7)
                  have hsumx : IntKind.i64.wrap ((x : Int) + 1) = (x : Int) + 1 := IntWalk.i64_in _ (by have := unhide HSN; omega)
                  clear E7 CJ HBW
                  by_cases hj : joinErr (σ.colS key t) (σ.K : Int) = 0
                  · rw [joinOut_good hj, Int.toNat_natCast]
                    rw [if_pos hj] at HN2
                    obtain ⟨tx, htx⟩ : ∃ tx, tx = strN (joinText (σ.colS key t) σ.K) := ⟨_, rfl⟩
                    rw [← htx] at HN2 ⊢
                    have HNN := hide (show some (t, tx) = σ.newestOf key (SL.take (x + 1)) from by rw [unhide HNX, unhide HN2])
                    have z0 := (unhide HB7).c0
                    have z1 := (unhide HB7).c1
                    have zf := (unhide HB7).fr
                    have HB8 := hide ((unhide HB7).set (t, tx))
                    clear htx HNX HN2 hj
                    go_wp2
                    go_roundw
                    case rel => exact ⟨x + 1, by omega, by go_num, some (t, tx), HNN, rfl, rfl, HB8⟩
                    case measure => simp [intOf]; omega
                  · rw [if_neg hj] at HN2
                    rw [joinOut_bad rfl hj]
                    obtain ⟨r, hr⟩ : ∃ r, r = joinErr (σ.colS key t) (σ.K : Int) := ⟨_, rfl⟩
                    rw [← hr] at hj ⊢
                    have hrB : (r == 0) = false := by rw [beq_eq_false_iff_ne]; exact hj
                    have HNN := hide (show _ = σ.newestOf key (SL.take (x + 1)) from ((unhide HNX).trans (unhide HN2)).symm)
                    clear hr hj HNX HN2
                    go_wp2
                    go_roundw
                    case rel => exact ⟨x + 1, by omega, by go_num, _, HNN, by rw [unhide HTXT], rfl, HB7⟩
                    case measure => simp [intOf]; omega
        · obtain rfl : n = x := by omega
          rw [unhide HN, List.take_length, unhide HSL] at HBN
          have HNW := hide (show b = σ.newest key from unhide HBN)
          have EW := (unhide HE2).trans (unhide HBA).ext
          have y0 := EW.keep (unhide R0)
          have y1 := EW.keep (unhide R1)
          have hlt0 : w.heap.size < W0.heap.size := cell_lt (unhide R0)
          have yf : ∀ j, wr.frozen? ⟨w.heap.size, j, none⟩ = false := fun j => (EW.frozen (p := ⟨w.heap.size, j, none⟩) hlt0).trans (unhide RF j)
          have z0 := (unhide HBA).c0
          have z1 := (unhide HBA).c1
          have HEF := hide ((unhide HE0).trans EW)
          clear EW HBN hlt0
          cases b with
          | none =>
            have z0 : wr.cell? ⟨wq.heap.size, 0, none⟩ = some (.int .i64 0) := z0
            go_wp2
            refine bodyPost_ret (v := .tuple #[.agg #[.int .i64 0, .int .i64 0], .string ⟨#[]⟩, .bool false]) (by simp [results, Tryz.results88, go_sem, World.cell?_setCell_same', y0, y1]; exact ⟨rfl, rfl⟩) rfl ?_
            rw [← unhide HNW]
            exact ⟨rfl, ((unhide HEF).setCell (Nat.le_refl _) _).setCell (Nat.le_refl _) _⟩
          | some pr =>
            obtain ⟨t0, x0⟩ := pr
            have z0 : wr.cell? ⟨wq.heap.size, 0, none⟩ = some (.int .i64 (t0 : Int)) := z0
            go_wp2
            refine bodyPost_ret (v := .tuple #[.agg #[.int .i64 (t0 : Int), .int .i64 0], .string x0, .bool true]) (by simp [results, Tryz.results88, go_sem, World.cell?_setCell_same', y0, y1]; exact ⟨rfl, rfl⟩) rfl ?_
            rw [← unhide HNW]
            exact ⟨rfl, ((unhide HEF).setCell (Nat.le_refl _) _).setCell (Nat.le_refl _) _⟩
end Go.Proofs.YtpenkbhljkmliaaGreatDoor

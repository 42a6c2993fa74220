/-
  The contract of (*Store).read.
-/
import Derived.Test.YtpenkbhljkmliaaGreatDoorSto11
import Derived.Test.YtpenkbhljkmliaaGreatDoorSto12
set_option linter.unusedVariables false
set_option linter.unusedSimpArgs false
namespace Go.Proofs.YtpenkbhljkmliaaGreatDoor
open Go.RowKit Go.BigFrame

theorem newest_small {σ : Sto} (Fi : Fine σ) {key t : Nat} {x : ByteArray} (h : σ.newest key = some (t, x)) : x.size ≤ 60 := by
  obtain ⟨-, -, h3⟩ := (Sto.newest_tells key (σ.stamps key)).1 t x h
  rw [h3, strN_size]
  unfold joinText
  rw [List.length_map, List.length_range]
  unfold lenN
  have := lenJ_hi (L := σ.colS key t) Fi.k1 (Nat.le_trans Fi.kn Fi.n10) (σ.colS key t).length
  omega
/-- What read answers. -/
def readV (σ : Sto) (key : Nat) : Value :=
  if σ.readE key ≠ 0 then .tuple #[.agg #[.string ⟨#[]⟩, .int .i64 0, .int .i64 0, .int .i64 0], .int .i64 0, .int .i64 (σ.readE key)]
  else .tuple #[.agg #[.string (σ.readText key), .int .i64 (σ.readAt key : Int), .int .i64 0, .int .i64 0], .int .i64 (σ.readMany key : Int), .int .i64 0]
def readTo (σ : Sto) (key : Nat) : Sto := if σ.readE key ≠ 0 then σ else σ.readT key
theorem readK_none (σ : Sto) (key t : Nat) (s : ByteArray) : σ.readK key t s [] = σ.kept := by
  funext i k
  simp [Sto.readK]
theorem readK_same (σ : Sto) (key t : Nat) (s : ByteArray) {l : List Nat} (hn : l.Nodup) {x : Nat} (h : x < l.length) : σ.readK key t s (l.take x) (l.getD x 0) key = σ.kept (l.getD x 0) key := by
  unfold Sto.readK
  rw [if_neg (fun e => take_not hn h e.2)]
theorem readK_step (σ : Sto) (key t : Nat) (s : ByteArray) {l : List Nat} {x : Nat} (h : x < l.length) :
    setK (σ.readK key t s (l.take x)) (l.getD x 0) key (Sto.nextK (σ.kept (l.getD x 0) key) (t, σ.pce s (l.getD x 0))) = σ.readK key t s (l.take (x + 1)) := by
  funext a b
  rw [take_snoc l 0 h]
  unfold setK Sto.readK
  by_cases c : a = l.getD x 0 ∧ b = key
  · obtain ⟨rfl, rfl⟩ := c
    rw [if_pos ⟨rfl, rfl⟩, if_pos ⟨rfl, by simp⟩]
  · rw [if_neg c]
    by_cases d : b = key ∧ a ∈ l.take x
    · rw [if_pos d, if_pos ⟨d.1, List.mem_append_left _ d.2⟩]
    · rw [if_neg d, if_neg (fun e => by
        rcases List.mem_append.1 e.2 with h1 | h1
        · exact d ⟨e.1, h1⟩
        · exact c ⟨List.mem_singleton.1 h1, e.1⟩)]
/-- How many are mended, of the first x. -/
def cntW (σ : Sto) (key t : Nat) (s : ByteArray) (x : Nat) : Nat := ((σ.ups.take x).filter (σ.wrong key t s)).length
theorem cntW_step (σ : Sto) (key t : Nat) (s : ByteArray) {x : Nat} (h : x < σ.ups.length) : cntW σ key t s (x + 1) = if σ.wrong key t s (σ.ups.getD x 0) then cntW σ key t s x + 1 else cntW σ key t s x := by
  unfold cntW
  rw [take_snoc σ.ups 0 h, List.filter_append, List.length_append]
  by_cases c : σ.wrong key t s (σ.ups.getD x 0) = true
  · rw [if_pos c, List.filter_cons, if_pos c]; rfl
  · rw [if_neg c, List.filter_cons, if_neg c]; rfl
theorem cntW_le (σ : Sto) (key t : Nat) (s : ByteArray) (x : Nat) : cntW σ key t s x ≤ x := by
  unfold cntW
  refine Nat.le_trans (List.length_filter_le _ _) ?_
  rw [List.length_take]; omega
/-- What is kept further, of the first y. -/
def nxt (l : List (Nat × ByteArray)) (r : Nat × ByteArray) (y : Nat) : List (Nat × ByteArray) := r :: (l.take y).filter fun e => decide (r.1 < e.1)
theorem nxt_yes {l : List (Nat × ByteArray)} {r : Nat × ByteArray} {y : Nat} (h : y < l.length) (hy : r.1 < (kd l y).1) : nxt l r (y + 1) = nxt l r y ++ [kd l y] := by
  unfold nxt
  rw [take_snoc l (0, ByteArray.empty) h, List.filter_append]
  have : decide (r.1 < (l.getD y (0, ByteArray.empty)).1) = true := decide_eq_true hy
  simp only [List.filter_cons, List.filter_nil, this, if_true, List.cons_append]
  rfl
theorem nxt_no {l : List (Nat × ByteArray)} {r : Nat × ByteArray} {y : Nat} (h : y < l.length) (hy : ¬ r.1 < (kd l y).1) : nxt l r (y + 1) = nxt l r y := by
  unfold nxt
  rw [take_snoc l (0, ByteArray.empty) h, List.filter_append]
  have : decide (r.1 < (l.getD y (0, ByteArray.empty)).1) = false := decide_eq_false hy
  simp only [List.filter_cons, List.filter_nil, this, Bool.false_eq_true, if_false, List.append_nil]
theorem nxt_all (l : List (Nat × ByteArray)) (r : Nat × ByteArray) : nxt l r l.length = Sto.nextK l r := by unfold nxt Sto.nextK; rw [List.take_length]
theorem nxt_len (l : List (Nat × ByteArray)) (r : Nat × ByteArray) (y : Nat) : (nxt l r y).length ≤ y + 1 := by
  unfold nxt
  rw [List.length_cons]
  have := List.length_filter_le (fun e : Nat × ByteArray => decide (r.1 < e.1)) (l.take y)
  rw [List.length_take] at this
  omega

set_option maxRecDepth 100000 in
set_option maxHeartbeats 8000000 in
theorem read_ok {b0 p g : Nat} {w : World} {v : Nat → Nat → Value} {σ : Sto} (S : St b0 w p g v σ) (Fi : Fine σ) (key : Nat) (hkey : key < 3) :
    Calls Tryz.prog 64 #[.pointer (some ⟨p, 0, none⟩), .int .i64 (key : Int)] w fun e w' => e = .returned (readV σ key) ∧ Became b0 w p g v σ w' (readTo σ key) := by
  have HS := hide S
  have HF := hide Fi
  have HFH := hide (show ∀ x, foot p g v σ.N x → x < w.heap.size from fun x hx => S.foot_hi hx)
  have HNF := hide (show ∀ b, w.heap.size ≤ b → ¬ foot p g v σ.N b from fun b hb h => by have := unhide HFH b h; omega)
  have CU := hide (fun W (E : Ext w W) => up_ok (S.keep E) Fi.n10)
  have CNW := hide (fun W (E : Ext w W) => newest_ok (S.keep E) Fi key hkey)
  have hUN : σ.ups.length ≤ 10 := Nat.le_trans σ.ups_le Fi.n10
  clear S Fi
  obtain ⟨W0, hW0⟩ : ∃ W0, W0 = w.alloc (.cells #[.string ⟨#[]⟩, .int .i64 0, .int .i64 0, .int .i64 0] 67) := ⟨_, rfl⟩
  have HW0 := hide hW0
  have HE0 := hide (show Ext w W0 by rw [hW0]; exact (Ext.refl w).alloc _)
  have R0 := hide (show W0.cell? ⟨w.heap.size, 0, none⟩ = some (.string ⟨#[]⟩) by rw [hW0, new_cell]; rfl)
  have R1 := hide (show W0.cell? ⟨w.heap.size, 1, none⟩ = some (.int .i64 0) by rw [hW0, new_cell]; rfl)
  have R2 := hide (show W0.cell? ⟨w.heap.size, 2, none⟩ = some (.int .i64 0) by rw [hW0, new_cell]; rfl)
  have R3 := hide (show W0.cell? ⟨w.heap.size, 3, none⟩ = some (.int .i64 0) by rw [hW0, new_cell]; rfl)
  have RF := hide (show ∀ j, W0.frozen? ⟨w.heap.size, j, none⟩ = false from fun j => by rw [hW0]; exact new_frozen _ _ _ _)
  have hlt0 : w.heap.size < W0.heap.size := cell_lt (unhide R0)
  clear hW0
  go_enter Tryz.func64, Tryz.ntmps64
  go_wp2_with fail
  rw [← unhide HW0]
  refine (unhide CU _ (unhide HE0)).mono ?_
  rintro e w1 ⟨⟨u, rfl, own⟩, E1⟩
  obtain ⟨A, cA, rfl, RU, hcA, hcm, hbA⟩ := row_of_own own
  have HRU := hide RU
  have HE1 := hide E1
  have HBA := hide (show ∀ b o, A = some ⟨b, o, none⟩ → w.heap.size ≤ b from fun b o h => by have := (hbA b o h).1; omega)
  clear RU own E1 hcm hbA
  have HUND := hide σ.ups_nodup
  obtain ⟨U, hU⟩ : ∃ U, U = σ.ups.length := ⟨_, rfl⟩
  have HRE := hide (show σ.readE key = if U < σ.R ∨ U < σ.W then 9 else if (σ.newest key).isNone then 4 else 0 from by rw [hU]; rfl)
  rw [← hU] at HRU hUN hcA ⊢
  have HU := hide hU
  clear hU
  have S1 := (unhide HS).keep ((unhide HE0).trans (unhide HE1))
  have c2 : w1.cell? ⟨p, 2, none⟩ = some (.int .i64 (σ.W : Int)) := S1.cW
  have c3 : w1.cell? ⟨p, 3, none⟩ = some (.int .i64 (σ.R : Int)) := S1.cR
  have z0 := (unhide HE1).keep (unhide R0)
  have z1 := (unhide HE1).keep (unhide R1)
  have z2 := (unhide HE1).keep (unhide R2)
  have z3 := (unhide HE1).keep (unhide R3)
  have zf : ∀ j, w1.frozen? ⟨w.heap.size, j, none⟩ = false := fun j => ((unhide HE1).frozen (p := ⟨w.heap.size, j, none⟩) hlt0).trans (unhide RF j)
  clear S1
  have bad : ∀ r : Int, σ.readE key = r → r ≠ 0 → readV σ key = .tuple #[.agg #[.string ⟨#[]⟩, .int .i64 0, .int .i64 0, .int .i64 0], .int .i64 0, .int .i64 r] ∧ readTo σ key = σ := fun r hr hne => by
    unfold readV readTo
    rw [hr, if_pos hne, if_pos hne]
    exact ⟨rfl, rfl⟩
  have HBAD := hide bad
  clear bad
  by_cases hUR : U < σ.R
  · have HP := hide (unhide HBAD 9 (by rw [unhide HRE, if_pos (.inl hUR)]) (by decide))
    have hURI : (U : Int) < (σ.R : Int) := by omega
    clear HRE
    go_wp2
    refine bodyPost_ret (v := .tuple #[.agg #[.string ⟨#[]⟩, .int .i64 0, .int .i64 0, .int .i64 0], .int .i64 0, .int .i64 9]) (by simp [results, Tryz.results64, go_sem, World.cell?_setCell_same', z0, z1, z2, z3]) rfl ?_
    rw [(unhide HP).1, (unhide HP).2]
    exact ⟨rfl, Became.of_ext (unhide HS) (((unhide HE0).trans (unhide HE1)).set4 (Nat.le_refl _) _ _ _ _)⟩
  by_cases hUW : U < σ.W
  · have HP := hide (unhide HBAD 9 (by rw [unhide HRE, if_pos (.inr hUW)]) (by decide))
    have hURI : ¬ (U : Int) < (σ.R : Int) := by omega
    have hUWI : (U : Int) < (σ.W : Int) := by omega
    clear HRE
    go_wp2
    refine bodyPost_ret (v := .tuple #[.agg #[.string ⟨#[]⟩, .int .i64 0, .int .i64 0, .int .i64 0], .int .i64 0, .int .i64 9]) (by simp [results, Tryz.results64, go_sem, World.cell?_setCell_same', z0, z1, z2, z3]) rfl ?_
    rw [(unhide HP).1, (unhide HP).2]
    exact ⟨rfl, Became.of_ext (unhide HS) (((unhide HE0).trans (unhide HE1)).set4 (Nat.le_refl _) _ _ _ _)⟩
  rw [if_neg (by omega)] at HRE
  have hURI : ¬ (U : Int) < (σ.R : Int) := by omega
  have hUWI : ¬ (U : Int) < (σ.W : Int) := by omega
  go_wp2_with fail
  refine (unhide CNW _ ((unhide HE0).trans (unhide HE1))).mono ?_
  rintro e w2 ⟨rfl, E2⟩
  have z0 := E2.keep z0
  have z1 := E2.keep z1
  have z2 := E2.keep z2
  have z3 := E2.keep z3
  have zf : ∀ j, w2.frozen? ⟨w.heap.size, j, none⟩ = false := fun j => (E2.frozen (p := ⟨w.heap.size, j, none⟩) (Nat.lt_of_lt_of_le hlt0 (unhide HE1).size)).trans (zf j)
  have HE2 := hide (((unhide HE0).trans (unhide HE1)).trans E2)
  have HRU2 := hide ((unhide HRU).keep E2)
  clear c2 c3 E2 CU CNW HRU
  cases hnw : σ.newest key with
  | none =>
    have HP := hide (unhide HBAD 4 (by rw [unhide HRE, hnw]; rfl) (by decide))
    clear HRE
    rw [show newV none = .tuple #[.agg #[.int .i64 0, .int .i64 0], .string ⟨#[]⟩, .bool false] from rfl]
    have y0 := fun o => ((Ext.refl w2).alloc o).keep z0
    have y1 := fun o => ((Ext.refl w2).alloc o).keep z1
    have y2 := fun o => ((Ext.refl w2).alloc o).keep z2
    have y3 := fun o => ((Ext.refl w2).alloc o).keep z3
    have yf : ∀ o j, (w2.alloc o).frozen? ⟨w.heap.size, j, none⟩ = false := fun o j => (((Ext.refl w2).alloc o).frozen (p := ⟨w.heap.size, j, none⟩) (show w.heap.size < w2.heap.size from cell_lt z0)).trans (zf j)
    go_wp2
    refine bodyPost_ret (v := .tuple #[.agg #[.string ⟨#[]⟩, .int .i64 0, .int .i64 0, .int .i64 0], .int .i64 0, .int .i64 4]) (by simp [results, Tryz.results64, go_sem, World.cell?_setCell_same', y0, y1, y2, y3]) rfl ?_
    rw [(unhide HP).1, (unhide HP).2]
    exact ⟨rfl, Became.of_ext (unhide HS) ((((unhide HE2)).alloc _).set4 (Nat.le_refl _) _ _ _ _)⟩
  | some pr =>
    obtain ⟨t, x⟩ := pr
    have hsm := newest_small (unhide HF) hnw
    have HP := hide (show readV σ key = .tuple #[.agg #[.string x, .int .i64 (t : Int), .int .i64 0, .int .i64 0], .int .i64 (cntW σ key t x U : Int), .int .i64 0] ∧ readTo σ key = { σ with kept := σ.readK key t x σ.ups } from by
      have h0 : σ.readE key = 0 := by rw [unhide HRE, hnw]; rfl
      have h1 : σ.readAt key = t := by simp [Sto.readAt, hnw]
      have h2 : σ.readText key = x := by simp [Sto.readText, hnw]
      have h3 : σ.readMany key = cntW σ key t x U := by
        unfold Sto.readMany cntW
        rw [h1, h2, unhide HU, List.take_length]
      unfold readV readTo Sto.readT
      rw [h0, if_neg (by decide), if_neg (by decide), h1, h2, h3]
      exact ⟨rfl, rfl⟩)
    have CS := hide (fun W => Split_ok x σ.K σ.N W hsm (unhide HF).k1 (unhide HF).kn (unhide HF).n10)
    have EA := (Ext.refl w2).alloc (.cells #[.int .i64 (t : Int), .int .i64 0] 65)
    obtain ⟨w3, hw3⟩ : ∃ w3, w3 = w2.alloc (.cells #[.int .i64 (t : Int), .int .i64 0] 65) := ⟨_, rfl⟩
    rw [← hw3] at EA
    have HA0 := hide (show w3.cell? ⟨w2.heap.size, 0, none⟩ = some (.int .i64 (t : Int)) by rw [hw3, new_cell]; rfl)
    have HA1 := hide (show w3.cell? ⟨w2.heap.size, 1, none⟩ = some (.int .i64 0) by rw [hw3, new_cell]; rfl)
    have HW3 := hide hw3
    have HEA := hide EA
    have S3 := (unhide HS).keep ((unhide HE2).trans EA)
    have HKK := hide (fun W (E : Ext w3 W) => show W.cell? ⟨p, 0, none⟩ = some (.int .i64 (σ.N : Int)) ∧ W.cell? ⟨p, 1, none⟩ = some (.int .i64 (σ.K : Int)) from ⟨E.keep S3.cN, E.keep S3.cK⟩)
    rw [show newV (some (t, x)) = .tuple #[.agg #[.int .i64 (t : Int), .int .i64 0], .string x, .bool true] from rfl]
    clear HRE HBAD hnw hsm EA hw3 S3
    go_upto_region 7 with fail
    rw [← unhide HW3]
    go_region_held3 (fun W => W.cell? ⟨p, 0, none⟩ = some (.int .i64 (σ.N : Int)) ∧ W.cell? ⟨p, 1, none⟩ = some (.int .i64 (σ.K : Int))) (first | exact unhide HKK _ (Ext.refl _).drew | exact unhide HKK _ E4) (first
      | (go_at_call 89; refine (unhide CS _).mono ?_; rintro e w4 ⟨⟨gq, rfl, M4⟩, E4'⟩; have E4 : Ext w3 w4 := Ext.trans (Ext.refl w3).drew E4'))
    have HE4 := hide (((unhide HE2).trans (unhide HEA)).trans E4)
    have S4 := (unhide HS).keep (unhide HE4)
    have HS4 := hide S4
    have y0 := hide (E4.keep ((unhide HEA).keep z0))
    have y1 := hide (E4.keep ((unhide HEA).keep z1))
    have y2 := hide (E4.keep ((unhide HEA).keep z2))
    have y3 := hide (E4.keep ((unhide HEA).keep z3))
    have hltw2 : w.heap.size < w2.heap.size := cell_lt z0
    have hltw4 : w.heap.size < w4.heap.size := cell_lt (unhide y0)
    have yf := hide (show ∀ j, w4.frozen? ⟨w.heap.size, j, none⟩ = false from fun j => (((unhide HEA).trans E4).frozen (p := ⟨w.heap.size, j, none⟩) hltw2).trans (zf j))
    have a0 := hide (E4.keep (unhide HA0))
    have a1 := hide (E4.keep (unhide HA1))
    have hgq : w.heap.size ≤ gq := by
      have h1 := (M4.lt gq rfl).1
      have h2 := ((unhide HE2).trans (unhide HEA)).size
      have h3 : w3.drew.heap.size = w3.heap.size := rfl
      omega
    have HPC := hide (show ∀ i, i < σ.N → w4.cell? ⟨gq, i, none⟩ = some (.string (σ.pce x i)) from fun i hi => by
      have hc := M4.cell hi
      rw [List.getD_eq_getElem?_getD, strs_get _ _ (by rw [splitL_length]; exact hi)] at hc
      exact hc)
    have HRU := hide (show ∀ y, y < U → ∃ b o, A = some ⟨b, o, none⟩ ∧ w4.cell? ⟨b, o + y, none⟩ = some (.int .i64 ((σ.ups.getD y 0 : Nat) : Int)) from fun y hy => by
      obtain ⟨b, o, hA', hb', hc'⟩ := ((unhide HRU2).keep ((unhide HEA).trans E4)).nat hy
      exact ⟨b, o, hA', hc'⟩)
    have hsw2 : w.heap.size ≤ w2.heap.size := by omega
    clear HA0 HA1 z0 z1 z2 z3 zf E4 E4' M4 S4 CS HKK HRU2 R0 R1 R2 R3 RF HE0 HE1 HW3 HEA HW0 HE2
    have HB0 := hide ((Became.same (unhide HS4)).to (τ := { σ with kept := σ.readK key t x (σ.ups.take 0) }) (by rw [List.take_zero, readK_none]))
    go_wp2
    go_loopw [13, 69] (fun mv i wr => ∃ y : Nat, y ≤ U ∧ i = .int .i64 y ∧ mv = .int .i64 (cntW σ key t x y : Int) ∧ Hid (Became b0 w4 p g v σ wr { σ with kept := σ.readK key t x (σ.ups.take y) })) (fun _ i _ => U - (intOf i).toNat)
    case atStart => exact ⟨0, Nat.zero_le _, rfl, by simp [cntW], HB0⟩
    case round =>
      obtain ⟨y, hy, rfl, rfl, HB⟩ := hrel
      by_cases hlt : y < U
      · obtain ⟨i, hi⟩ : ∃ i, i = σ.ups.getD y 0 := ⟨_, rfl⟩
        have hyU : y < σ.ups.length := by rw [← unhide HU]; exact hlt
        have hiN : i < σ.N := by rw [hi]; exact Sto.ups_lt (getD_mem σ.ups 0 hyU)
        obtain ⟨bu, ou, rfl, hcu⟩ := unhide HRU y hlt
        rw [← hi] at hcu
        obtain ⟨v', S', O', F'⟩ := unhide HB
        have hsame : σ.readK key t x (σ.ups.take y) i key = σ.kept i key := by rw [hi]; exact readK_same σ key t x (unhide HUND) hyU
        have n4 : wr.cell? ⟨p, 4, none⟩ = some (.slice (some ⟨g, 0, none⟩) σ.N σ.N) := S'.cnodes
        have b0c := O'.keepc (unhide a0) (unhide HNF _ hsw2)
        have b1c := O'.keepc (unhide a1) (unhide HNF _ hsw2)
        have pc := O'.keepc (unhide HPC i hiN) (unhide HNF _ hgq)
        have uc := O'.keepc hcu (unhide HNF _ (unhide HBA _ _ rfl))
        have kc := S'.ckept i key hiN hkey
        have hrow := S'.row hiN hkey
        rw [show ({ σ with kept := σ.readK key t x (σ.ups.take y) } : Sto).kept i key = σ.kept i key from hsame] at hrow
        obtain ⟨Ak, ck, hvk, RK, -⟩ := hrow
        rw [hvk] at kc
        have HRK := hide RK
        have hlen := (unhide HF).len i key hiN hkey
        have HLEN := hide hlen
        obtain ⟨pc', hpc⟩ : ∃ q, q = σ.pce x i := ⟨_, rfl⟩
        rw [← hpc] at pc
        have HPCE := hide hpc
        have CH := hide (fun W (E : Ext wr W) => hask_ok Ak (σ.kept i key).length ck (σ.kept i key) t pc' W (RK.keep E) (by omega))
        have HWR := hide (show (σ.kept i key).any (fun e => decide (e = (t, pc'))) = !(σ.wrong key t x i) from by unfold Sto.wrong; rw [hpc, Bool.not_not])
        have HCW := hide (cntW_step σ key t x hyU)
        rw [← hi] at HCW
        obtain ⟨L, hL⟩ : ∃ L, L = (σ.kept i key).length := ⟨_, rfl⟩
        rw [← hL] at kc HRK HLEN CH
        have HL := hide hL
        have HI := hide hi
        have HS' := hide S'
        have HO' := hide O'
        have HF' := hide F'
        have hiI : (i : Int) < (σ.N : Int) := by omega
        have hkI : (key : Int) < 3 := by omega
        have hyI : (y : Int) < (U : Int) := by omega
        have n4A := fun o => ((Ext.refl wr).alloc o).keep n4
        have b0A := fun o => ((Ext.refl wr).alloc o).keep b0c
        have b1A := fun o => ((Ext.refl wr).alloc o).keep b1c
        have pcA := fun o => ((Ext.refl wr).alloc o).keep pc
        have hcw10 := Nat.le_trans (cntW_le σ key t x y) hy
        clear S' O' F' hcu hi hvk hsame hL hpc RK hlen
        go_upto_region 13 with fail
        apply share
        · intro H
          go_region_law (fail)
          all_goals exact H
        obtain ⟨br, hbr⟩ : ∃ br, br = wr.heap.size := ⟨_, rfl⟩
        obtain ⟨wa, hwa⟩ : ∃ wa, wa = (wr.alloc (.cells #[.int .i64 (t : Int), .int .i64 0, .string pc'] 135)).drew := ⟨_, rfl⟩
        rw [← hwa, ← hbr]
        have EA : Ext wr wa := by rw [hwa]; exact ((Ext.refl wr).alloc _).drew
        have d0 : wa.cell? ⟨br, 0, none⟩ = some (.int .i64 (t : Int)) := by rw [hwa, hbr]; exact new_cell wr #[.int .i64 (t : Int), .int .i64 0, .string pc'] _ 0
        have d1 : wa.cell? ⟨br, 1, none⟩ = some (.int .i64 0) := by rw [hwa, hbr]; exact new_cell wr #[.int .i64 (t : Int), .int .i64 0, .string pc'] _ 1
        have d2 : wa.cell? ⟨br, 2, none⟩ = some (.string pc') := by rw [hwa, hbr]; exact new_cell wr #[.int .i64 (t : Int), .int .i64 0, .string pc'] _ 2
        have kca := EA.keep kc
        have kfa : wa.frozen? ⟨g, i * 4 + 1 + key, none⟩ = false := ((unhide HS').keep EA).fg _
        have hgs : g < wa.heap.size := ((unhide HS').keep EA).g_hi
        have ba0 := EA.keep b0c
        have ba1 := EA.keep b1c
        have HK := hide (fun W (E : Ext wa W) => show W.cell? ⟨g, i * 4 + 1 + key, none⟩ = some (.slice Ak L ck) ∧ W.cell? ⟨br, 0, none⟩ = some (.int .i64 (t : Int)) ∧ W.cell? ⟨br, 1, none⟩ = some (.int .i64 0) ∧ W.cell? ⟨br, 2, none⟩ = some (.string pc') from ⟨E.keep kca, E.keep d0, E.keep d1, E.keep d2⟩)
        have HKF := hide (fun W (E : Ext wa W) => show W.frozen? ⟨g, i * 4 + 1 + key, none⟩ = false from (E.frozen (p := ⟨g, i * 4 + 1 + key, none⟩) hgs).trans kfa)
        have HAT := hide (fun W (E : Ext wa W) => show W.cell? ⟨w2.heap.size, 0, none⟩ = some (.int .i64 (t : Int)) ∧ W.cell? ⟨w2.heap.size, 1, none⟩ = some (.int .i64 0) from ⟨E.keep ba0, E.keep ba1⟩)
        have HEA := hide EA
        have hsum2 : IntKind.i64.wrap ((cntW σ key t x y : Int) + 1) = (cntW σ key t x y : Int) + 1 := IntWalk.i64_in _ (by omega)
        rw [unhide HWR] at CH
        obtain ⟨q, hq⟩ : ∃ q, q = σ.wrong key t x i := ⟨_, rfl⟩
        rw [← hq] at CH HCW
        obtain ⟨r, hr⟩ : ∃ r, r = !q := ⟨_, rfl⟩
        rw [← hr] at CH
        have HR := hide hr
        clear hr
        obtain ⟨cw, hcw⟩ : ∃ cw, cw = cntW σ key t x y := ⟨_, rfl⟩
        rw [← hcw] at HCW hsum2 hcw10 ⊢
        clear hq hwa hbr EA d0 d1 d2 kca kfa ba0 ba1 n4A b0A b1A pcA n4 b0c b1c pc uc kc HWR hcw
        go_upto_region 14 with fail
        go_region_held3 (fun W => W.cell? ⟨g, i * 4 + 1 + key, none⟩ = some (.slice Ak L ck) ∧ W.cell? ⟨br, 0, none⟩ = some (.int .i64 (t : Int)) ∧ W.cell? ⟨br, 1, none⟩ = some (.int .i64 0) ∧ W.cell? ⟨br, 2, none⟩ = some (.string pc')) (first | exact unhide HK _ (Ext.refl _).drew | exact unhide HK _ E6) (first
          | (go_at_call 90; refine (unhide CH _ ((unhide HEA).trans (Ext.refl _).drew)).mono ?_; rintro e w6 ⟨rfl, E6'⟩; have E6 : Ext wa w6 := Ext.trans (Ext.refl wa).drew E6'))
        have HE6 := hide E6
        have kc6 := unhide HK w6 E6
        obtain ⟨kg, k0, k1, k2⟩ := kc6
        have kgA := fun o => ((Ext.refl w6).alloc o).keep kg
        have HNX := hide (show (w6.alloc (.cells #[.int .i64 (t : Int), .int .i64 0, .string pc'] 135)).ownsRow w6.heap.size 135 3 (.slice (some ⟨w6.heap.size, 0, none⟩) 1 1) (nxt (σ.kept i key) (t, pc') 0).length (kps (nxt (σ.kept i key) (t, pc') 0)) from
          World.ownsRow_lit (base := w6.heap.size) (e := 135) (size := 3) w6 #[.int .i64 (t : Int), .int .i64 0, .string pc'] 1 (Nat.le_refl _) (by unfold maxLen; omega) rfl)
        have HEX := hide ((Ext.refl w6).alloc (.cells #[.int .i64 (t : Int), .int .i64 0, .string pc'] 135))
        clear E6 E6' CH
        cases q
        all_goals
          have hr := unhide HR
          simp only [Bool.not_false, Bool.not_true] at hr
          subst hr
          clear HR
          simp only [Bool.not_false, Bool.not_true]
          go_wp2
          go_loopw [18, 102] (fun u j wz => ∃ z : Nat, z ≤ L ∧ j = .int .i64 z ∧ Ext w6 wz ∧ Hid (wz.ownsRow w6.heap.size 135 3 u (nxt (σ.kept i key) (t, pc') z).length (kps (nxt (σ.kept i key) (t, pc') z)))) (fun _ j _ => L - (intOf j).toNat)
          case atStart => exact ⟨0, Nat.zero_le _, rfl, unhide HEX, HNX⟩
          case round =>
            obtain ⟨z, hz, rfl, hextz, HOZ⟩ := hrel
            by_cases hlz : z < L
            · have EZ := (unhide HEA).trans ((unhide HE6).trans hextz)
              obtain ⟨bk, ok, rfl, hbk, ck0, ck1, ck2⟩ := ((unhide HRK).keep EZ).kp hlz
              have hzI : (z : Int) < (L : Int) := by omega
              have hsumz : IntKind.i64.wrap ((z : Int) + 1) = (z : Int) + 1 := IntWalk.i64_in _ (by have := unhide HLEN; omega)
              have at01 := unhide HAT wr ((unhide HE6).trans hextz)
              obtain ⟨at0, at1⟩ := at01
              have at0A := fun o => ((Ext.refl wr).alloc o).keep at0
              have at1A := fun o => ((Ext.refl wr).alloc o).keep at1
              have hzl : z < (σ.kept i key).length := by rw [← unhide HL]; exact hlz
              have HY := hide (fun h => nxt_yes (l := σ.kept i key) (r := (t, pc')) hzl h)
              have HNO := hide (fun h => nxt_no (l := σ.kept i key) (r := (t, pc')) hzl h)
              have hnl := nxt_len (σ.kept i key) (t, pc') z
              have HBD := hide (show ((nxt (σ.kept i key) (t, pc') z).length + 1) * 32 ≤ 140737488355328 ∧ (nxt (σ.kept i key) (t, pc') z).length + 1 ≤ 9223372036854775807 from by have := unhide HLEN; omega)
              have CN := hide (fun W => newr_ok (kd (σ.kept i key) z).1 t W)
              obtain ⟨ke, hke⟩ : ∃ ke, ke = kd (σ.kept i key) z := ⟨_, rfl⟩
              rw [← hke] at ck0 ck2 HY HNO CN
              clear hke hnl hzl
              obtain ⟨kt, kx⟩ := ke
              dsimp only at ck0 ck2
              have EX := (Ext.refl wr).alloc (.cells #[.int .i64 (kt : Int), .int .i64 0, .string kx] 135)
              have x0 := new_cell wr #[.int .i64 (kt : Int), .int .i64 0, .string kx] 135 0
              have x1 := new_cell wr #[.int .i64 (kt : Int), .int .i64 0, .string kx] 135 1
              have x2 := new_cell wr #[.int .i64 (kt : Int), .int .i64 0, .string kx] 135 2
              have HX0 := hide x0
              have HX1 := hide x1
              have HX2 := hide x2
              have HEXZ := hide EX
              clear x0 x1 x2 EX EZ
              by_cases hnew : t < kt
              · have HY2 := hide (unhide HY hnew)
                have CN2 := hide (show ∀ W, Calls Tryz.prog 91 #[.agg #[.int .i64 (kt : Int), .int .i64 0], .agg #[.int .i64 (t : Int), .int .i64 0]] W fun e w' => e = .returned (.bool true) ∧ Ext W w' from fun W => by have := unhide CN W; rw [show decide (t < (kt, kx).1) = true from decide_eq_true hnew] at this; exact this)
                clear CN HY HNO hnew
                go_wp2_with fail
                refine (unhide CN2 _).mono ?_
                rintro e w8 ⟨rfl, E8⟩
                have y0 := E8.keep (unhide HX0)
                have y1 := E8.keep (unhide HX1)
                have y2 := E8.keep (unhide HX2)
                have HO8 := hide (row_ext (unhide HOZ) ((unhide HEXZ).trans E8))
                have E68 := hextz.trans ((unhide HEXZ).trans E8)
                clear HX0 HX1 HX2 CN2 E8 at0 at1 at0A at1A HEXZ
                go_wp2_with (at_builtin; refine stop ?_)
                unfold Stop
                refine wpList_app (w := w8) (cs := #[.int .i64 (kt : Int), .int .i64 0, .string kx]) rfl _ _ 136 (by rfl) 135 keptR E68 _ _ _ (by rfl) (unhide HO8) 1 1 (by rfl) rfl rfl (unhide HBD) ?_
                intro v' w9 hown9 hext9 _
                have HOZ2 : Hid (w9.ownsRow w6.heap.size 135 3 v' (nxt (σ.kept i key) (t, pc') (z + 1)).length (kps (nxt (σ.kept i key) (t, pc') (z + 1)))) := hide (by
                  rw [unhide HY2, List.length_append, ← kps_append]; exact hown9)
                clear hown9 HO8 E68 HY2
                go_wp2
                go_roundw
                case rel => exact ⟨z + 1, by omega, by go_num, hext9, HOZ2⟩
                case measure => simp [intOf]; omega
              · have HN2 := hide (unhide HNO hnew)
                have CN2 := hide (show ∀ W, Calls Tryz.prog 91 #[.agg #[.int .i64 (kt : Int), .int .i64 0], .agg #[.int .i64 (t : Int), .int .i64 0]] W fun e w' => e = .returned (.bool false) ∧ Ext W w' from fun W => by have := unhide CN W; rw [show decide (t < (kt, kx).1) = false from decide_eq_false hnew] at this; exact this)
                clear CN HY HNO hnew
                go_wp2_with fail
                refine (unhide CN2 _).mono ?_
                rintro e w8 ⟨rfl, E8⟩
                have HO8 := hide (row_ext (unhide HOZ) ((unhide HEXZ).trans E8))
                have HOZ2 : Hid (w8.ownsRow w6.heap.size 135 3 u18 (nxt (σ.kept i key) (t, pc') (z + 1)).length (kps (nxt (σ.kept i key) (t, pc') (z + 1)))) := hide (by
                  rw [unhide HN2]; exact unhide HO8)
                have E68 := hextz.trans ((unhide HEXZ).trans E8)
                clear HX0 HX1 HX2 CN2 E8 at0 at1 at0A at1A HEXZ HO8 HN2
                go_wp2
                go_roundw
                case rel => exact ⟨z + 1, by omega, by go_num, E68, HOZ2⟩
                case measure => simp [intOf]; omega
            · obtain rfl : L = z := by omega
              have EZ := (unhide HE6).trans hextz
              obtain ⟨kg', -, -, -⟩ := unhide HK wr EZ
              have kf' := unhide HKF wr EZ
              have HEZ := hide EZ
              have HOF := hide (show wr.ownsRow w6.heap.size 135 3 u18 (Sto.nextK (σ.kept i key) (t, pc')).length (kps (Sto.nextK (σ.kept i key) (t, pc'))) from by
                have h := unhide HOZ
                rw [unhide HL, nxt_all] at h
                exact h)
              obtain ⟨bn, cn, rfl, hbn, -⟩ := row_open (unhide HOF) (by unfold Sto.nextK; exact Nat.succ_pos _)
              clear EZ HOZ
              have hnl2 : (Sto.nextK (σ.kept i key) (t, pc')).length ≤ L + 1 := by rw [← nxt_all, unhide HL]; exact nxt_len _ _ _
              go_wp2
              have EW := (unhide HEA).trans (unhide HEZ)
              obtain ⟨T1, T2, T3⟩ := (unhide HS').turn hiN hkey (w' := wr) (u := .slice (some ⟨bn, 0, none⟩) (Sto.nextK (σ.kept i key) (t, pc')).length cn) (l := Sto.nextK (σ.kept i key) (t, pc')) (row_mono (unhide HOF) (Nat.le_trans (by have h1 := (unhide HS').g_lo; have h2 := (unhide HS').g_hi; omega) ((unhide HEA).trans (unhide HE6)).size)) (grown_ext EW _) (.inr (.inr ⟨bn, rfl, Nat.le_trans ((unhide HEA).trans (unhide HE6)).size hbn⟩))
              have HB3 := hide ((Became.trans_ (unhide HO') (unhide HF') ⟨_, T1, T2, T3⟩ rfl).to (τ := { σ with kept := σ.readK key t x (σ.ups.take (y + 1)) }) (by
                have h := readK_step σ key t x hyU
                rw [← unhide HI, ← unhide HPCE] at h
                rw [← h]))
              clear T1 T2 T3 EW
              go_roundw
              case rel => exact ⟨y + 1, by omega, by go_num, by first | (rw [unhide HCW]; rfl) | (rw [unhide HCW]; simp), HB3⟩
              case measure => simp [intOf]; omega
      · obtain rfl : U = y := by omega
        have hcu : σ.ups.take U = σ.ups := by rw [unhide HU, List.take_length]
        rw [hcu] at HB
        obtain ⟨v', S', O', F'⟩ := unhide HB
        have b0c := O'.keepc (unhide a0) (unhide HNF _ hsw2)
        have b1c := O'.keepc (unhide a1) (unhide HNF _ hsw2)
        have z0 := O'.keepc (unhide y0) (unhide HNF _ (Nat.le_refl _))
        have z1 := O'.keepc (unhide y1) (unhide HNF _ (Nat.le_refl _))
        have z2 := O'.keepc (unhide y2) (unhide HNF _ (Nat.le_refl _))
        have z3 := O'.keepc (unhide y3) (unhide HNF _ (Nat.le_refl _))
        have zf : ∀ j, wr.frozen? ⟨w.heap.size, j, none⟩ = false := fun j => (World.frozen?_of_block (a := ⟨w.heap.size, j, none⟩) (O'.block _ hltw4 (unhide HNF _ (Nat.le_refl _)))).trans (unhide yf j)
        have HB4 := hide (Became.tell (Only.of_ext (unhide HE4)) (unhide HB) rfl rfl (b := w.heap.size) (Nat.le_refl _) hltw4 (unhide HNF _ (Nat.le_refl _)) (.string x) (.int .i64 (t : Int)) (.int .i64 0) (.int .i64 0))
        clear S' O' F' hcu
        generalize (cntW σ key t x U) = cw at *
        go_wp2
        refine bodyPost_ret (v := .tuple #[.agg #[.string x, .int .i64 (t : Int), .int .i64 0, .int .i64 0], .int .i64 (cw : Int), .int .i64 0]) (by simp [results, Tryz.results64, go_sem, World.cell?_setCell_same', z0, z1, z2, z3]) rfl ?_
        rw [(unhide HP).1, (unhide HP).2]
        exact ⟨rfl, unhide HB4⟩
end Go.Proofs.YtpenkbhljkmliaaGreatDoor

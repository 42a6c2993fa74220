/-
  The contract of piece.Split.
-/
import Derived.Test.YtpenkbhljkmliaaGreatDoorPiece5
import Derived.Test.YtpenkbhljkmliaaGreatDoorTri
import Derived.BigRegion
import Derived.Deep.Cut
import Derived.Deep.CutRange
set_option linter.unusedVariables false
set_option linter.unusedSimpArgs false
namespace Go.Proofs.YtpenkbhljkmliaaGreatDoor
open Go.RowKit Go.BigFrame

theorem rowsR : EInfo Tryz.prog 163 106 (.slice none 0 0) 1 24 := EInfo.mk_ Tryz.underlying163 (by kernel_rfl) rfl (by omega)
theorem strR : EInfo Tryz.prog 22 9 (.string ByteArray.empty) 1 16 := EInfo.mk_ Tryz.underlying22 (by kernel_rfl) rfl (by omega)

/-- The data of a row, the first j of them. -/
def dataP (s : ByteArray) (k m i j : Nat) : List Nat := (List.range k).map fun t => if t < j then (if t * m + i < s.size then sby s (t * m + i) else 0) else 0
theorem dataP_zero (s : ByteArray) (k m i : Nat) : dataP s k m i 0 = List.replicate k 0 := by
  apply List.ext_getElem (by simp [dataP])
  intro t h1 h2
  simp [dataP]
theorem dataP_full (s : ByteArray) (k m i : Nat) : dataP s k m i k = dataL s k m i := by
  apply List.ext_getElem (by simp [dataP, dataL])
  intro t h1 h2
  have ht : t < k := by simpa [dataP] using h1
  simp [dataP, dataL, ht]
theorem dataP_set (s : ByteArray) {k m i j : Nat} (h : j < k) (hs : j * m + i < s.size) : (dataP s k m i j).set j (sby s (j * m + i)) = dataP s k m i (j + 1) := by
  apply List.ext_getElem (by simp [dataP])
  intro t h1 h2
  rw [List.getElem_set]
  simp only [dataP, List.getElem_map, List.getElem_range]
  by_cases e : j = t
  · subst e; rw [if_pos rfl, if_pos (by omega), if_pos hs]
  · rw [if_neg e]
    by_cases c : t < j
    · rw [if_pos c, if_pos (show t < j + 1 by omega)]
    · rw [if_neg c, if_neg (show ¬ t < j + 1 by omega)]
theorem dataP_skip (s : ByteArray) {k m i j : Nat} (hs : ¬ j * m + i < s.size) : dataP s k m i j = dataP s k m i (j + 1) := by
  apply List.ext_getElem (by simp [dataP])
  intro t h1 h2
  simp only [dataP, List.getElem_map, List.getElem_range]
  by_cases c : t < j
  · rw [if_pos c, if_pos (show t < j + 1 by omega)]
  · rw [if_neg c]
    by_cases e : t = j
    · subst e; rw [if_pos (Nat.lt_succ_self t), if_neg hs]
    · rw [if_neg (show ¬ t < j + 1 by omega)]
/-- The pieces, the first j of them. -/
def splP (L : List ByteArray) (n j : Nat) : List ByteArray := (List.range n).map fun t => if t < j then L.getD t ByteArray.empty else ByteArray.empty
theorem splP_zero (L : List ByteArray) (n : Nat) : splP L n 0 = List.replicate n ByteArray.empty := by
  apply List.ext_getElem (by simp [splP])
  intro t h1 h2
  simp [splP]
theorem splP_full {L : List ByteArray} {n : Nat} (h : L.length = n) : splP L n n = L := by
  apply List.ext_getElem (by simp [splP, h])
  intro t h1 h2
  have ht : t < n := by simpa [splP] using h1
  simp [splP, ht, List.getD_eq_getElem?_getD, List.getElem?_eq_getElem h2]
theorem splP_set (L : List ByteArray) {n j : Nat} (h : j < n) : (splP L n j).set j (L.getD j ByteArray.empty) = splP L n (j + 1) := by
  apply List.ext_getElem (by simp [splP])
  intro t h1 h2
  rw [List.getElem_set]
  simp only [splP, List.getElem_map, List.getElem_range]
  by_cases e : j = t
  · subst e; rw [if_pos rfl, if_pos (by omega)]
  · rw [if_neg e]
    by_cases c : t < j
    · rw [if_pos c, if_pos (by omega)]
    · rw [if_neg c, if_neg (by omega)]
theorem strs_set (l : List ByteArray) (k : Nat) (x : ByteArray) : (strs l).set k (.string x) = strs (l.set k x) := by simp [strs, List.map_set]
theorem strs_replicate (n : Nat) (x : ByteArray) : List.replicate n (Value.string x) = strs (List.replicate n x) := by simp [strs]

theorem Rack.congr {K : IntKind} {e : TypeId} {w0 W : World} {g n : Nat} {vs : Nat → Value} {xs ys : Nat → List Nat} (T : Rack K e w0 W g n vs xs) (h : ∀ j, j < n → xs j = ys j) : Rack K e w0 W g n vs ys :=
  { T with own := fun j hj => by rw [← h j hj]; exact T.own j hj }
/-- Cells of other blocks. -/
theorem Rack.far {K : IntKind} {e : TypeId} {w0 W W' : World} {g n : Nat} {vs : Nat → Value} {xs : Nat → List Nat} (T : Rack K e w0 W g n vs xs) {i : Nat} (hi : i < n) {v' u : Value} {b o : Nat} (hb : b < W.heap.size) (hbg : b ≠ g)
    (hv : ∀ j, j < n → (vs j).ownBlock ≠ some b) (hg : W.grownBy W' (vs i).ownBlock) (hat : v'.ownBlock = (vs i).ownBlock ∨ ∃ k, v'.ownBlock = some k ∧ W.heap.size ≤ k) :
    (W'.setCell ⟨g, i, none⟩ u).cell? ⟨b, o, none⟩ = W.cell? ⟨b, o, none⟩ ∧ ∀ j, j < n → (upv vs i v' j).ownBlock ≠ some b := by
  refine ⟨?_, fun j hj => ?_⟩
  · rw [World.cell?_setCell_other _ _ _ _ (by intro e; injection e with e; exact hbg e.symm)]
    exact World.cell?_of_block (a := ⟨b, o, none⟩) (hg.block b hb fun e => hv i hi e.symm)
  · by_cases c : j = i
    · subst c
      rw [upv_same]
      rcases hat with h | ⟨k, h, hk⟩
      · rw [h]; exact hv j hj
      · rw [h]; intro e; injection e with e; omega
    · rw [upv_ne _ _ c]; exact hv j hj

/-- Where a header lies, behind the growth of its slice. -/
theorem Rack.place {K : IntKind} {e : TypeId} {w0 W W' : World} {g n : Nat} {vs : Nat → Value} {xs : Nat → List Nat} (T : Rack K e w0 W g n vs xs) {i : Nat} (hi : i < n) (hg : W.grownBy W' (vs i).ownBlock) :
    W'.cell? ⟨g, i, none⟩ = some (vs i) ∧ W'.frozen? ⟨g, i, none⟩ = false := by
  have hgb : W'.heap[g]? = W.heap[g]? := hg.block g T.hi fun e => T.off i hi e.symm
  refine ⟨(World.cell?_of_block (a := ⟨g, i, none⟩) hgb).trans (T.cell i hi), ?_⟩
  have := T.open_ i hi
  unfold World.frozen? at this ⊢
  rw [hgb]; exact this
theorem Rack.alloc {K : IntKind} {e : TypeId} {w0 W : World} {g n : Nat} {vs : Nat → Value} {xs : Nat → List Nat} (T : Rack K e w0 W g n vs xs) (o : Obj) : Rack K e w0 (W.alloc o) g n vs xs := T.keep ((Ext.refl W).alloc o)

set_option maxRecDepth 100000 in
set_option maxHeartbeats 4000000 in
theorem Split_ok (s : ByteArray) (k n : Nat) (w : World) (hs : s.size ≤ 60) (h1 : 1 ≤ k) (hkn : k ≤ n) (hn : n ≤ 10) :
    Calls Tryz.prog 89 #[.string s, .int .i64 (k : Int), .int .i64 (n : Int)] w fun e w' => (∃ g, e = .returned (.tuple #[.slice (some ⟨g, 0, none⟩) n n, .int .i64 0]) ∧ Made w' w.heap.size 9 1 (.slice (some ⟨g, 0, none⟩) n n) n (strs (splitL s k n))) ∧ Ext w w' := by
  obtain ⟨l, hl⟩ : ∃ l, l = s.size := ⟨_, rfl⟩
  have hlI : (s.size : Int) = (l : Int) := by rw [hl]
  obtain ⟨m, hm⟩ : ∃ m, m = sz l k := ⟨_, rfl⟩
  have CR := hide (right_any (k : Int) (n : Int) w)
  rw [show decide (1 ≤ (k : Int) ∧ (k : Int) ≤ (n : Int) ∧ (n : Int) ≤ 10) = true from decide_eq_true (by omega)] at CR
  have CS := hide (size_any l k w (by omega) h1 (by omega))
  have hm2 : (l + k - 1) / k = m := hm.symm
  rw [hm2] at CS
  have hml : m ≤ 60 := by
    rw [hm]; unfold sz
    have h2 : (l + k - 1) / k ≤ l := by
      rcases Nat.eq_zero_or_pos l with h | h
      · subst h; rw [Nat.div_eq_of_lt (by omega)]; omega
      · refine Nat.div_le_of_le_mul ?_
        obtain ⟨a, rfl⟩ : ∃ a, k = a + 1 := ⟨k - 1, by omega⟩
        obtain ⟨b, rfl⟩ : ∃ b, l = b + 1 := ⟨l - 1, by omega⟩
        have : (a + 1) * (b + 1) = a * b + a + b + 1 := by rw [Nat.mul_add, Nat.add_mul]; omega
        omega
    omega
  have hmk : ∀ w : World, (Instr.makeSlice 163 (.int .i64 (n : Int)) (.int .i64 (n : Int))).run Tryz.prog w = .ok (.slice (some ⟨w.heap.size, 0, none⟩) n n) (w.alloc (.cells (madeCells #[.slice none 0 0] n) 106)) := fun w => by
    have := make_run rowsR n n (Nat.le_refl _) (by omega) (by omega) w
    rw [Nat.mul_one] at this
    exact this
  have hmd : ∀ w : World, (Instr.makeSlice 106 (.int .i64 (k : Int)) (.int .i64 (k : Int))).run Tryz.prog w = .ok (.slice (some ⟨w.heap.size, 0, none⟩) k k) (w.alloc (.cells (madeCells #[.int .u8 0] k) 5)) := fun w => by
    have := make_run byteR k k (Nat.le_refl _) (by omega) (by omega) w
    rw [Nat.mul_one] at this
    exact this
  have hms : ∀ w : World, (Instr.makeSlice 22 (.int .i64 (n : Int)) (.int .i64 (n : Int))).run Tryz.prog w = .ok (.slice (some ⟨w.heap.size, 0, none⟩) n n) (w.alloc (.cells (madeCells #[.string ByteArray.empty] n) 9)) := fun w => by
    have := make_run strR n n (Nat.le_refl _) (by omega) (by omega) w
    rw [Nat.mul_one] at this
    exact this
  have T0 : Rack .u8 5 w (w.alloc (.cells (madeCells #[.slice none 0 0] n) 106)) w.heap.size n (fun _ => .slice none 0 0) (fun _ => []) := by
    have M := Made.make (w := w) (base := w.heap.size) (e := 106) (.slice none 0 0) n (Nat.le_refl _) (by omega)
    refine Rack.start ((Ext.refl w).alloc _) (Nat.le_refl _) (by simp) (fun j hj => ?_) (fun j hj => M.frozen j)
    rw [M.cell hj, List.getD_eq_getElem?_getD]; simp [hj]
  have HT := hide T0
  have hlen' : decide ((60 : Int) < (l : Int)) = false := decide_eq_false (by omega)
  have HL := hide hl
  have HM := hide hm
  clear T0 hl hm hm2
  go_enter Tryz.func89, Tryz.ntmps89
  go_wp2_with fail
  refine (unhide CR).mono ?_
  rintro e w1 ⟨rfl, rfl⟩
  go_wp2_with fail
  refine (unhide CS).mono ?_
  rintro e w2 ⟨rfl, rfl⟩
  go_wp2
  go_loopw [37] (fun i wr => ∃ x : Nat, x ≤ m ∧ i = .int .i64 x ∧ ∃ vs : Nat → Value, Hid (Rack .u8 5 w2 wr w2.heap.size n vs (fun j => colL s k m n j x))) (fun i _ => m - (intOf i).toNat)
  case atStart => exact ⟨0, Nat.zero_le _, rfl, _, hide ((unhide HT).congr fun j hj => by simp [colL])⟩
  case round =>
    obtain ⟨x, hx, rfl, vs, HR⟩ := hrel
    by_cases hlt : x < m
    · obtain ⟨wa, hwa⟩ : ∃ wa, wa = wr := ⟨_, rfl⟩
      subst hwa
      have M0 : Made (wa.alloc (.cells (madeCells #[.int .u8 0] k) 5)) wa.heap.size 5 1 (.slice (some ⟨wa.heap.size, 0, none⟩) k k) k (nats .u8 (dataP s k m x 0)) := by
        rw [dataP_zero, ← nats_replicate]
        exact Made.make (.int .u8 0) k (Nat.le_refl _) (by omega)
      have HM0 := hide M0
      clear M0
      have E0 : Ext wa (wa.alloc (.cells (madeCells #[.int .u8 0] k) 5)) := (Ext.refl wa).alloc _
      go_wp2
      go_loopw [43] (fun i wz => ∃ j : Nat, j ≤ k ∧ i = .int .i64 j ∧ Hid (Made wz wa.heap.size 5 1 (.slice (some ⟨wa.heap.size, 0, none⟩) k k) k (nats .u8 (dataP s k m x j))) ∧ Ext wa wz) (fun i _ => k - (intOf i).toNat)
      case atStart => exact ⟨0, Nat.zero_le _, rfl, HM0, E0⟩
      case round =>
        obtain ⟨j, hj, rfl, HMM, hext⟩ := hrel
        by_cases hjk : j < k
        · obtain ⟨p, hp⟩ : ∃ p, p = j * m := ⟨_, rfl⟩
          have hpl : p ≤ 600 := by rw [hp]; exact Nat.le_trans (Nat.mul_le_mul (show j ≤ 10 by omega) hml) (by omega)
          have hpI : (j : Int) * (m : Int) = (p : Int) := by rw [hp, Int.natCast_mul]
          obtain ⟨q, hq⟩ : ∃ q, q = p + x := ⟨_, rfl⟩
          have hqI : (p : Int) + (x : Int) = (q : Int) := by omega
          have HQ := hide (show q = j * m + x by omega)
          have hql : q ≤ 1000 := by omega
          clear hp hq hpl
          by_cases hqs : q < l
          · have hb := sby_get s q (by omega)
            have hqs1 : (q : Int) < (l : Int) := by omega
            have hqs2 : (q : Int) < (s.size : Int) := by omega
            have hqs3 : q < s.size := by omega
            have hq0 : (0 : Int) ≤ (q : Int) := by omega
            have hc := (unhide HMM).cell hjk
            have hf := (unhide HMM).frozen j
            have hwu : IntKind.u8.wrap ((sby s q : Nat) : Int) = ((sby s q : Nat) : Int) := IntWalk.u8_in _ (by have := sby_lt s q; omega)
            have HS2 := hide ((unhide HMM).set (j := j) (by omega) (.int .u8 ((sby s q : Nat) : Int)))
            rw [nats_set, unhide HQ, dataP_set s hjk (by rw [← unhide HQ]; exact hqs3), ← unhide HQ] at HS2
            generalize sby s q = bb at *
            go_wp2
            go_roundw
            case rel =>
              refine ⟨j + 1, by omega, by go_num, HS2, ?_⟩
              exact hext.setCell (by first | (simp; done) | (simp; omega)) _
            case measure => simp [intOf]; omega
          · have hqs1 : ¬ (q : Int) < (l : Int) := by omega
            have HS2 := HMM
            rw [dataP_skip s (show ¬ j * m + x < s.size by rw [← unhide HQ]; omega)] at HS2
            go_wp2
            go_roundw
            case rel => exact ⟨j + 1, by omega, by go_num, HS2, hext⟩
            case measure => simp [intOf]; omega
        · obtain rfl : j = k := by omega
          rw [dataP_full] at HMM
          obtain ⟨A1, c1, hA1, RD, -, -, -⟩ := (unhide HMM).open_
          injection hA1 with hA1 _ hc1
          subst hA1; subst hc1
          have CP := hide (Put_ok (some ⟨wa.heap.size, 0, none⟩) j j n (dataL s j m x) wr RD (dataL_lt s j m x) h1 hkn (by omega))
          have HE1 := hide hext
          obtain ⟨dl, hdl⟩ : ∃ dl, dl = Wm.putL (dataL s j m x) n := ⟨_, rfl⟩
          rw [← hdl] at CP
          have HDL := hide hdl
          have hdb := hide (show ∀ t, dl.getD t 0 < 256 from fun t => by rw [hdl]; exact Wm.putL_lt (dataL_lt s j m x) (by rw [dataL_length]; omega) (by omega) t)
          have HDN := hide (show dl.length = n from by rw [hdl, Wm.putL_length])
          clear HMM RD hdl hext E0 HM0
          go_wp2_with fail
          refine (unhide CP).mono ?_
          rintro e w4 ⟨⟨v, rfl, M4⟩, E4⟩
          have HEa := hide ((unhide HE1).trans E4)
          have hsz1 := (unhide HE1).size
          have hRb := unhide HR
          have hlo := hRb.hi
          obtain ⟨B, cb, rfl, RB, -, -, hBb⟩ := M4.open_
          obtain ⟨b, o, rfl, hbl, hcb⟩ := RB.2 (by omega)
          have hbb := (hBb b o rfl).1
          have hcells : ∀ t, t < n → w4.cell? ⟨b, o + t, none⟩ = some (.int .u8 ((dl.getD t 0 : Nat) : Int)) := fun t ht => by
            rw [hcb t (by omega), nats_get _ _ _ (by rw [unhide HDN]; exact ht)]
          have T4 := hide ((unhide HR).keep (unhide HEa))
          have HC4 := hide hcells
          have hbg : b ≠ w2.heap.size := by omega
          have HF4 := hide (show ∀ j, j < n → (vs j).ownBlock ≠ some b from fun j hj e => by
            have := (hRb.own j hj).lt b e
            omega)
          clear hcells hcb hBb RB M4 hRb hlo hsz1 E4 CP
          go_wp2
          go_loopw [70] (fun i wz => ∃ y : Nat, y ≤ n ∧ i = .int .i64 y ∧ ∃ us : Nat → Value, Hid (Rack .u8 5 w2 wz w2.heap.size n us (fun t => if t < y then colL s j m n t (x + 1) else colL s j m n t x)) ∧ b < wz.heap.size ∧ Hid (∀ t, t < n → (us t).ownBlock ≠ some b) ∧ Hid (∀ t, t < n → wz.cell? ⟨b, o + t, none⟩ = some (.int .u8 ((dl.getD t 0 : Nat) : Int)))) (fun i _ => n - (intOf i).toNat)
          case atStart => exact ⟨0, Nat.zero_le _, rfl, vs, hide ((unhide T4).congr fun t ht => by rw [if_neg (by omega)]), hbl, HF4, HC4⟩
          case round =>
            obtain ⟨y, hy, rfl, us, HRR, hbz, HF, HC⟩ := hrel
            by_cases hyn : y < n
            · have hcy := unhide HC y hyn
              obtain ⟨z, hz⟩ : ∃ z, z = dl.getD y 0 := ⟨_, rfl⟩
              rw [← hz] at hcy
              have hzl : z < 256 := by rw [hz]; exact unhide hdb y
              have HZ := hide hz
              clear hz
              obtain ⟨v, hv⟩ : ∃ v, v = us y := ⟨_, rfl⟩
              have hcv := (unhide HRR).cell y hyn
              rw [← hv] at hcv
              have HV := hide hv
              obtain ⟨wb, hwb⟩ : ∃ wb, wb = wr := ⟨_, rfl⟩
              subst hwb
              have TA := hide ((unhide HRR).alloc (.cells #[.int .u8 (z : Int)] 5))
              have hown := (unhide TA).own y hyn
              rw [← hv] at hown
              rw [if_neg (Nat.lt_irrefl y)] at hown
              have HOW := hide hown
              clear hown hv
              have hcl := colL_length s j m n y x
              have hbd : ((colL s j m n y x).length + 1) * 1 ≤ 140737488355328 ∧ (colL s j m n y x).length + 1 ≤ 9223372036854775807 := by omega
              have HBD := hide hbd
              clear hcl hbd
              go_wp2_with (at_builtin; refine wpList_app_any rfl _ _ 106 (by rfl) 5 byteR w2.heap.size _ _ _ (by rfl) (unhide HOW) _ 1 1 [.int .u8 (z : Int)] (by rfl) (row_new wb #[.int .u8 (z : Int)] 5 1 1 rfl) rfl (unhide HBD) (by have := (unhide TA).ext.size; exact this) ?_)
              intro v' w6 hown6 hg6 hat6
              obtain ⟨g6, c6, hv6, -⟩ := row_open hown6 (by omega)
              subst hv6
              obtain ⟨n6, hn6⟩ : ∃ n6, n6 = (colL s j m n y x).length + 1 := ⟨_, rfl⟩
              obtain ⟨v', hv'⟩ : ∃ v', v' = Value.slice (some ⟨g6, 0, none⟩) n6 c6 := ⟨_, rfl⟩
              rw [← hn6, ← hv'] at hown6 hat6
              rw [← hn6]
              have HN6 := hide hn6
              clear hn6
              have hgu : (wb.alloc (.cells #[.int .u8 (z : Int)] 5)).grownBy w6 (us y).ownBlock := by rw [← unhide HV]; exact hg6
              have hat : v'.ownBlock = (us y).ownBlock ∨ ∃ k, v'.ownBlock = some k ∧ (wb.alloc (.cells #[.int .u8 (z : Int)] 5)).heap.size ≤ k := by
                rcases hat6 with h | h
                · exact .inl (by rw [← unhide HV]; exact h)
                · exact .inr ⟨_, h, by simp⟩
              obtain ⟨hp1, hp2⟩ := (unhide TA).place hyn hgu
              rw [← unhide HV] at hp1
              have hown6' : w6.ownsRow w2.heap.size 5 1 v' (colL s j m n y (x + 1)).length (nats .u8 (colL s j m n y (x + 1))) := by
                rw [colL_succ, List.length_append, ← nats_append]
                have hz : nats .u8 [(Wm.putL (dataL s j m x) n).getD y 0] = [.int .u8 (z : Int)] := by rw [← unhide HDL, ← unhide HZ]; rfl
                rw [hz]
                have := unhide HN6
                rw [this] at hown6
                exact hown6
              have TT := hide ((unhide TA).turn hyn hown6' hgu hat)
              have FF := fun o => (unhide TA).far (u := v') hyn (v' := v') (b := b) (o := o) (by simp; omega) hbg (unhide HF) hgu hat
              have hbz2 : b < (w6.setCell ⟨w2.heap.size, y, none⟩ v').heap.size := by
                have := hgu.size
                simp at this ⊢
                omega
              have HFF := hide FF
              have HBZ := hide hbz2
              clear hown6 hown6' hg6 hat6 hgu hat FF hbz2
              subst hv'
              go_wp2
              go_roundw
              case rel =>
                refine ⟨y + 1, by omega, by go_num, _, hide ((unhide TT).congr fun t ht => ?_), unhide HBZ, hide (fun t ht => (unhide HFF 0).2 t ht), hide (fun t ht => ?_)⟩
                · by_cases c : t = y
                  · subst c; rw [upv_same, if_pos (Nat.lt_succ_self t)]
                  · rw [upv_ne _ _ c]
                    by_cases d : t < y
                    · rw [if_pos d, if_pos (show t < y + 1 by omega)]
                    · rw [if_neg d, if_neg (show ¬ t < y + 1 by omega)]
                · rw [(unhide HFF (o + t)).1]
                  have := unhide HC t ht
                  rw [← this]
                  exact World.cell?_of_block (Below.heap_alloc _ _ _ hbz)
              case measure => simp [intOf]; omega
            · obtain rfl : y = n := by omega
              have HN := hide ((unhide HRR).congr (ys := fun t => colL s j m y t (x + 1)) fun t ht => by rw [if_pos ht])
              go_wp2
              go_roundw
              case rel => exact ⟨x + 1, by omega, by go_num, us, HN⟩
              case measure => simp [intOf]; omega
    · obtain rfl : x = m := by omega
      obtain ⟨w4, hw4⟩ : ∃ w4, w4 = wr := ⟨_, rfl⟩
      subst hw4
      have M0 : Made (w4.alloc (.cells (madeCells #[.string ByteArray.empty] n) 9)) w4.heap.size 9 1 (.slice (some ⟨w4.heap.size, 0, none⟩) n n) n (strs (splP (splitL s k n) n 0)) := by
        rw [splP_zero, ← strs_replicate]
        exact Made.make (.string ByteArray.empty) n (Nat.le_refl _) (by omega)
      have HM0 := hide M0
      have E0 : Ext w4 (w4.alloc (.cells (madeCells #[.string ByteArray.empty] n) 9)) := (Ext.refl w4).alloc _
      have HE0 := hide E0
      have HG := hide (fun (y : Nat) (h : y < n) => splitL_get (s := s) (k := k) h)
      have HLN := hide (splitL_length s k n)
      rw [← unhide HL, ← unhide HM] at HG
      obtain ⟨L, hL⟩ : ∃ L, L = splitL s k n := ⟨_, rfl⟩
      rw [← hL] at HM0 HG HLN
      have HLL := hide hL
      clear M0 E0 hL
      go_wp2
      go_loopw [91] (fun i wz => ∃ y : Nat, y ≤ n ∧ i = .int .i64 y ∧ Hid (Made wz w4.heap.size 9 1 (.slice (some ⟨w4.heap.size, 0, none⟩) n n) n (strs (splP L n y))) ∧ Hid (Ext w4 wz)) (fun i _ => n - (intOf i).toNat)
      case atStart => exact ⟨0, Nat.zero_le _, rfl, HM0, HE0⟩
      case round =>
        obtain ⟨y, hy, rfl, HMM, HEX⟩ := hrel
        by_cases hyn : y < n
        · have TR := (unhide HR).keep (unhide HEX)
          have hcy := TR.cell y hyn
          obtain ⟨B, cb, hv, RB, -, -, -⟩ := row_of_own (TR.own y hyn)
          rw [hv] at hcy
          rw [colL_length] at hcy RB
          have CSL := hide (sealed_ok B x cb l _ wr RB (by omega) (by omega) (colL_lt s k x n y x hkn (by omega)))
          rw [← unhide HG y hyn] at CSL
          obtain ⟨S, hS⟩ : ∃ S, S = L.getD y ByteArray.empty := ⟨_, rfl⟩
          rw [← hS] at CSL
          have HSS := hide hS
          clear TR RB hv hS
          go_wp2_with fail
          refine (unhide CSL).mono ?_
          rintro e w5 ⟨rfl, E5⟩
          have HM5 := hide ((unhide HMM).keep E5)
          have HE5 := hide ((unhide HEX).trans E5)
          have hc5 := (unhide HM5).cell hyn
          have hf5 := (unhide HM5).frozen y
          have HM6 := hide ((unhide HM5).set (j := y) (by omega) (.string S))
          rw [strs_set, unhide HSS, splP_set L hyn, ← unhide HSS] at HM6
          clear E5 CSL
          go_wp2
          go_roundw
          case rel =>
            refine ⟨y + 1, by omega, by go_num, HM6, hide ?_⟩
            exact (unhide HE5).setCell (by first | (simp; done) | (simp; omega)) _
          case measure => simp [intOf]; omega
        · obtain rfl : y = n := by omega
          go_wp2
          go_ret2
          have hE := (unhide HR).ext
          refine ⟨⟨_, rfl, ?_⟩, hE.trans (unhide HEX)⟩
          have := (unhide HMM).mono hE.size
          rw [splP_full (unhide HLN)] at this
          rw [← unhide HLL]
          exact this
end Go.Proofs.YtpenkbhljkmliaaGreatDoor

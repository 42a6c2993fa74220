/-
  The walk of the law MatrixCapelli.
-/
import Derived.Test.YtifkphlbjjdigaaMxC
import Derived.Test.YtifkphlbjjdigaaHold
set_option linter.unusedVariables false
set_option linter.unusedSimpArgs false
namespace Go.Proofs.Ytifkphlbjjdigaa
open Go.RowKit Go.BigFrame Wm.Fld

theorem row_new2 (w : World) (xs : Array Value) (e : TypeId) (n sz : Nat) (h : xs.size = n * sz) {b : Nat} (hb : b = w.heap.size) : Row (w.alloc (.cells xs e)) (some ⟨b, 0, none⟩) n sz xs.toList := by
  subst hb; exact row_new w xs e n sz h
theorem solErr_not4 (n : Nat) (ln : Nat → Nat) (m : Nat) : solErr n ln m ≠ 4 := by
  unfold solErr chkM
  split
  · split
    · omega
    · split <;> omega
  · split <;> omega
theorem ex_sol (i : Nat) (hi : i < 2) : sm (fun j => ml (Wm.m8m (litM [[1, 2], [0, 1]]) i j) (Wm.m8 (([6, 1] : List Nat).getD j 0))) 2 = Wm.m8 (([4, 1] : List Nat).getD i 0) := by
  have h := Wm.mulT_mm (M := litM [[1, 2], [0, 1]]) (N := fun t _ => ([6, 1] : List Nat).getD t 0) (litM_lt (by decide)) (fun t _ => getD_lt8 (by decide) t) 2
  have h2 : Wm.m8 (Wm.mulT 2 (litM [[1, 2], [0, 1]]) (fun t _ => ([6, 1] : List Nat).getD t 0) i 0) = sm (fun j => ml (Wm.m8m (litM [[1, 2], [0, 1]]) i j) (Wm.m8 (([6, 1] : List Nat).getD j 0))) 2 := congrFun (congrFun h i) 0
  rw [← h2]
  rcases (show i = 0 ∨ i = 1 by omega) with rfl | rfl <;> decide +kernel
theorem ex_ans {f : Nat → Nat} (hf : ∀ j, f j < 256) (h : ∀ i, i < 2 → sm (fun j => ml (Wm.m8m (litM [[1, 2], [0, 1]]) i j) (Wm.m8 (f j))) 2 = Wm.m8 (([4, 1] : List Nat).getD i 0)) : f 0 = 6 ∧ f 1 = 1 := by
  have z0 : Wm.m8 0 = (z : Wm.B8) := rfl
  have o1 : Wm.m8 1 = (o : Wm.B8) := rfl
  have h1 := h 1 (by omega)
  have h0 := h 0 (by omega)
  have g1 : Wm.m8 (f 1) = Wm.m8 1 := by
    have : ad (ad z (ml (Wm.m8 0) (Wm.m8 (f 0)))) (ml (Wm.m8 1) (Wm.m8 (f 1))) = Wm.m8 1 := h1
    rw [z0, z_ml, o1, o_ml, ad_z, z_ad] at this
    exact this
  have e1 : f 1 = 1 := Wm.m8_inj (hf 1) (by omega) g1
  refine ⟨?_, e1⟩
  have g0 : ad (ad z (ml (Wm.m8 1) (Wm.m8 (f 0)))) (ml (Wm.m8 2) (Wm.m8 (f 1))) = Wm.m8 4 := h0
  rw [o1, o_ml, z_ad, g1, o1, ml_o] at g0
  refine Wm.m8_inj (hf 0) (by omega) ?_
  have : ad (ad (Wm.m8 (f 0)) (Wm.m8 2)) (Wm.m8 2) = Wm.m8 (f 0) := by rw [ad_assoc, Wm.b8_two, ad_z]
  rw [← this, g0]
  rfl

--{
set_option maxRecDepth 100000 in
set_option maxHeartbeats 8000000 in
theorem capelli_law (A : Option Addr) (n c : Nat) (ra : Nat → Option Addr) (ln cp : Nat → Nat) (M : Nat → Nat → Nat) (B : Option Addr) (m c2 : Nat) (lb : List Nat) (w : World)
    (T : Tab w A n ra ln cp M) (hn : n ≤ 4611686018427387904) (S : SliceIn w B m c2 1 1 (nats .u8 lb)) (h82 : ∀ x ∈ lb, x < 256) :
    Calls Try.prog 6 #[.slice A n c, .slice B m c2] w fun e w' => e = .returned (.bool true) ∧ Ext w w' := by
  obtain ⟨R2, hnc2, hrb2, hc632, hnil2⟩ := S
  have HT := hide T
  have HR2 := hide R2
  have HL8 := hide (getD_lt8 h82)
  have CT := hide tables_any
  have CS := hide (fun w1 (E : Ext w w1) => Solve_any A n c ra ln cp M B m c2 lb w1 (T.keep E) hn (R2.keep E) hnc2 hc632 h82)
  have CR := hide (fun w1 (E : Ext w w1) => Rank_any A n c ra ln cp M w1 (T.keep E) hn)
  clear T R2 h82 hrb2 hnil2
  go_enter Try.func6, Try.ntmps6
  go_wp2_with fail
  have E5 := (((Ext.refl w).alloc (.cells (nats .u8 [1, 2]).toArray 5)).alloc (.cells (nats .u8 [0, 1]).toArray 5)).alloc (.cells #[.slice (some ⟨w.heap.size, 0, none⟩) 2 2, .slice (some ⟨w.heap.size + 1, 0, none⟩) 2 2] 26)
  have T2 := (tabL2 w [1, 2] [0, 1] (by decide) (by decide) (by decide) (by decide)).keep ((Ext.refl _).alloc (.cells (nats .u8 [4, 1]).toArray 5))
  refine (Solve_any _ 2 2 _ _ _ _ (some ⟨w.heap.size + 3, 0, none⟩) 2 2 [4, 1] _ T2 (by omega) (row_new2 _ (nats .u8 [4, 1]).toArray 5 2 1 rfl (by simp)) (by omega) (by omega) (by decide)).mono ?_
  rintro e w1 ⟨ho, E1⟩
  have HE1 := hide ((E5.alloc _).trans E1)
  clear T2 E5 E1
  rcases ho with ⟨hne, -⟩ | ⟨-, -, -, ⟨-, -, hno⟩ | ⟨gx, f, rfl, hgx, hf8, hfc, hfs⟩⟩
  · exact absurd (by decide) hne
  · exact absurd (fun i hi => ex_sol i hi) (hno (fun j => Wm.m8 (([6, 1] : List Nat).getD j 0)))
  obtain ⟨f0, f1⟩ := ex_ans hf8 hfs
  have RX : Row w1 (some ⟨gx, 0, none⟩) 2 1 (nats .u8 [6, 1]) := ⟨rfl, fun _ => ⟨gx, 0, rfl, hgx, fun j hj => by
    rcases (show j = 0 ∨ j = 1 by omega) with rfl | rfl
    · have := hfc 0 (show 0 < 2 by omega)
      rw [f0] at this; exact this
    · have := hfc 1 (show 1 < 2 by omega)
      rw [f1] at this; exact this⟩⟩
  have HEQ := hide (equal_u8 (some ⟨gx, 0, none⟩) (some ⟨w1.heap.size, 0, none⟩) 2 2 2 2 [6, 1] [6, 1] _ (RX.keep ((Ext.refl w1).alloc (.cells (nats .u8 [6, 1]).toArray 5))) (row_new w1 (nats .u8 [6, 1]).toArray 5 2 1 rfl) (by omega) (by omega))
  rw [decide_eq_true rfl] at HEQ
  clear RX hfc hfs hf8 f0 f1 hgx
  go_wp2_with fail
  refine (unhide HEQ).mono ?_
  rintro e w2 ⟨rfl, nd, rfl⟩
  have HE2 := hide (((unhide HE1).alloc (.cells (nats .u8 [6, 1]).toArray 5)).drewN nd)
  clear HEQ
  go_wp2_with fail
  refine (unhide CT _).mono ?_
  rintro e w3 ⟨rfl, E3⟩
  have HE3 := hide ((unhide HE2).trans E3)
  clear CT E3
  have CX := hide (unhide CS w3 (unhide HE3))
  clear CS
  go_wp2_with fail
  refine (unhide CX).mono ?_
  rintro e w4 ⟨ho, E4⟩
  have HE4 := hide ((unhide HE3).trans E4)
  clear CX E4
  rcases ho with ⟨hne, rfl⟩ | ⟨-, hck, hmn, ho⟩
  · have hB1 : (solErr n ln m != 0) = true := by rw [bne_iff_ne]; exact hne
    have hB2 : (solErr n ln m != 4) = true := by rw [bne_iff_ne]; exact solErr_not4 n ln m
    generalize solErr n ln m = r at *
    go_wp2
    go_ret
    exact ⟨rfl, unhide HE4⟩
  subst hmn
  obtain ⟨a1, a2, a3, a4, a5⟩ := chkM_ok hck
  obtain ⟨l, hl⟩ : ∃ l, l = ln 0 := ⟨_, rfl⟩
  have HL := hide hl
  rw [← hl] at ho a3 a4 a5
  have HCK := hide hck
  have HLN := hide (show ∀ i, i < m → ln i = l from a5)
  obtain ⟨ba, oa, rfl, hba, hca⟩ := (unhide HT).hd (by omega)
  have HCA := hide (show ∀ i, i < m → w.cell? ⟨ba, oa + i, none⟩ = some (.slice (ra i) l (cp i)) from fun i hi => by rw [hca i hi, unhide HLN i hi])
  have hc0 := hca 0 (by omega)
  rw [Nat.add_zero, ← hl] at hc0
  have HC0 := hide hc0
  obtain ⟨bb, ob, rfl, hbb, hbc⟩ := (unhide HR2).2 (by omega)
  have HBB := hide hbb
  have HBC := hide (show ∀ i, i < m → w.cell? ⟨bb, ob + i, none⟩ = some (.int .u8 (lb.getD i 0 : Int)) from fun i hi => by rw [hbc i (by omega), nats_get _ _ _ (by rw [(unhide HR2).numN]; exact hi)])
  have hnnB : ((m : Int) != (m : Int)) = false := by simp
  have hmk : ∀ w : World, (Instr.makeSlice 22 (.int .i64 (m : Int)) (.int .i64 (m : Int))).run Try.prog w = .ok (.slice (some ⟨w.heap.size, 0, none⟩) m m) (w.alloc (.cells (madeCells #[.slice none 0 0] m) 26)) := fun w => by
    have := make_run rowM m m (Nat.le_refl _) (by omega) (by omega) w
    rw [Nat.mul_one] at this
    exact this
  have CR4 := hide (unhide CR w4 (unhide HE4))
  clear a5 hca hck hl hbc hbb hc0 CR
  rcases ho with ⟨rfl, hnos, -⟩ | ⟨gx, f, rfl, hgx, hf8, hfc, hfs⟩
  · have HNOS := hide hnos
    clear hnos
    go_wp2_with fail
    refine (unhide CR4).mono ?_
    rintro e w5 ⟨ho, E5⟩
    have HE5 := hide ((unhide HE4).trans E5)
    clear CR4 E5
    rcases ho with ⟨hne, -⟩ | ⟨-, r, rfl, hrr⟩
    · exact absurd (unhide HCK) hne
    rw [← unhide HL] at hrr
    have HRR := hide hrr
    clear hrr
    by_cases hl12 : l < 12
    · have hl12I : (l : Int) < 12 := by omega
      have HG0 := hide (Gr.start 5 26 w5 m (l + 1) (fun _ => 0) (fun _ => 0) (besN l M lb) (by omega))
      have hc05 := (unhide HE5).keep (unhide HC0)
      obtain ⟨ra0, hra0⟩ : ∃ q, q = ra 0 := ⟨_, rfl⟩; rw [← hra0] at hc05; clear hra0
      obtain ⟨cp0, hcp0⟩ : ∃ q, q = cp 0 := ⟨_, rfl⟩; rw [← hcp0] at hc05; clear hcp0
      go_wp2
      go_loopw [73] (fun i wz => ∃ x : Nat, x ≤ m ∧ i = .int .i64 x ∧ ∃ bl cq : Nat → Nat, Hid (Gr 5 w5 wz w5.heap.size m x (l + 1) bl cq (besN l M lb) (.slice none 0 0) 0 [])) (fun i _ => m - (intOf i).toNat)
      case atStart => exact ⟨0, Nat.zero_le _, rfl, _, _, HG0⟩
      case round =>
        obtain ⟨x, hx, rfl, bl, cq, HG⟩ := hrel
        by_cases hlt : x < m
        · obtain ⟨wa, hwa⟩ : ∃ wa, wa = wr := ⟨_, rfl⟩
          subst hwa
          have HEA0 := hide ((unhide HE5).trans (unhide HG).ext)
          have hcx := (unhide HEA0).keep (unhide HCA x hlt)
          have RX := ((unhide HT).keep (unhide HEA0)).rowN hlt
          rw [unhide HLN x hlt] at RX
          obtain ⟨bx, ox, hrx, -, -⟩ := (unhide HT).row x hlt (by rw [unhide HLN x hlt]; omega)
          rw [hrx] at RX hcx
          have CC := hide (fun (W : World) (E : Ext wa W) => clone_row (some ⟨bx, ox, none⟩) l (cp x) _ W (RX.keep E) (fun u hu => by
            simp only [nats, List.mem_map] at hu
            obtain ⟨y, -, rfl⟩ := hu
            rfl) (by omega) (fun h => by cases h))
          obtain ⟨Y, hY⟩ : ∃ Y, Y = lb.getD x 0 := ⟨_, rfl⟩
          have HY := hide hY
          have hcb : wa.cell? ⟨bb, ob + x, none⟩ = some (.int .u8 (Y : Int)) := by rw [hY]; exact (unhide HEA0).keep (unhide HBC x hlt)
          have hcur := (unhide HG).cur hlt
          have hcf := (unhide HG).hd_f x hlt
          have HK := hide (fun (W : World) (E : Ext wa W) => show W.cell? ⟨bb, ob + x, none⟩ = some (.int .u8 (Y : Int)) from E.keep hcb)
          have HC2 := hide (fun (W : World) (E : Ext wa W) => show W.cell? ⟨w5.heap.size, x, none⟩ = some (.slice none 0 0) ∧ W.frozen? ⟨w5.heap.size, x, none⟩ = false from
            ⟨E.keep hcur, (E.frozen (p := ⟨w5.heap.size, x, none⟩) (unhide HG).g_hi).trans hcf⟩)
          have hbne : bb ≠ w5.heap.size := by have h1 := (unhide HE5).size; have h2 := unhide HBB; omega
          have T0 : Hold wa wa [] := Hold.nil (Ext.refl wa)
          skip
          have hxmI : (x : Int) < (m : Int) := by omega
          have hx0I : (0 : Int) ≤ (x : Int) := by omega
          clear RX hrx hY
          generalize cp x = cx at *
          have HROW := hide (show ∀ j, j < l + 1 → ((List.range l).map (M x) ++ [Y]).getD j 0 = besN l M lb x j from fun j hj => by
            unfold besN
            by_cases cc : j < l
            · rw [if_pos cc, List.getD_eq_getElem?_getD, List.getElem?_append_left (by simpa using cc)]; simp [cc]
            · obtain rfl : l = j := by omega
              rw [if_neg cc, List.getD_eq_getElem?_getD, List.getElem?_append_right (by simp), ← unhide HY]; simp)
          generalize (List.range l).map (M x) = row at *
          go_wp2
          go_region_held3 (fun W => W.cell? ⟨bb, ob + x, none⟩ = some (.int .u8 (Y : Int))) (first | exact unhide HK _ (E3.alloc _) | exact unhide HK _ E3 | exact (cell_off _ _ hbne).trans (unhide HK _ TX.ext_) | exact unhide HK _ TX.ext_ | exact unhide HK _ (Ext.refl _).drew | exact unhide HK _ ((Ext.refl _).drew.alloc _) | exact unhide HK _ ((Ext.refl _).alloc _).drew | exact unhide HK _ ((Ext.refl _).alloc _)) (first
            | (go_at_call 23; refine (unhide CC _ ?E).mono ?_; (case E => (first | exact (Ext.refl _).drew | exact ((Ext.refl _).alloc _).drew | exact ((Ext.refl _).drew.alloc _))); rintro e wb ⟨⟨vc, rfl, own⟩, E2⟩; have E3 : Ext wa wb := Ext.trans (by first | exact (Ext.refl _).drew | exact ((Ext.refl _).alloc _).drew | exact ((Ext.refl _).drew.alloc _)) E2)
            | (refine step_app_rows rfl (.tmp 81) (.tmp 86) 26 rfl byteM (Hold.push1 (Hold.more T0.drew E2 own) _ _) 0 rfl rfl [.int .u8 (Y : Int)] rfl ?hm rfl ?hb ?_; (case hm => simp); (case hb => omega); intro vx wx TX hgx; have own2 := TX.own (List.mem_cons_self); dsimp only at own2; obtain ⟨bz, cz, hu, hbz, -⟩ := row_open own2 (by omega); subst hu; obtain ⟨hcw, hcz⟩ := unhide HC2 _ TX.ext_)
            | (refine step_app_rows rfl (.tmp 81) (.tmp 86) 26 rfl byteM (Hold.more (Hold.push1 T0.drew _ _) E2 own) 1 rfl rfl [.int .u8 (Y : Int)] rfl ?hm rfl ?hb ?_; (case hm => simp); (case hb => omega); intro vx wx TX hgx; have own2 := TX.own (List.mem_cons_of_mem _ (List.mem_cons_self)); dsimp only at own2; obtain ⟨bz, cz, hu, hbz, -⟩ := row_open own2 (by omega); subst hu; obtain ⟨hcw, hcz⟩ := unhide HC2 _ TX.ext_))
          all_goals
            try dsimp only at own2
            have E4 := TX.ext_
            have TG := (unhide HG).grow hlt (v' := .slice (some ⟨bz, 0, none⟩) (l + 1) cz) (m' := l + 1) (ys := row ++ [Y]) (own_lower (by rw [← nats_append]; exact own2) (unhide HG).ext.size) E4.quietly (.inr ⟨bz, rfl, hbz⟩)
            obtain ⟨b2, hb2, TC⟩ := TG.shut hlt (by omega) rfl (f := besN l M lb x) (unhide HROW)
            have HTC := hide ((TC.congr (M' := besN l M lb) fun i j _ _ => by
              by_cases cc : i = x
              · subst cc; rw [upf_same]
              · rw [upf_ne _ _ cc]))
            clear TG TC hb2 own2 own E2 E3 E4 TX hgx T0
            go_wp2
            go_roundw
            case rel => first | exact ⟨x + 1, by omega, by go_num, ⟨_, _, HTC⟩, by first | trivial | assumption⟩ | exact ⟨x + 1, by omega, by go_num, _, _, HTC⟩
            case measure => simp [intOf]; omega
        · obtain rfl : m = x := by omega
          have HE6 := hide ((unhide HE5).trans (unhide HG).ext)
          have CW := hide (Rank_any _ m m _ _ _ _ wr ((unhide HG).done (besN_lt (unhide HT).lt (unhide HL8))).tab hn)
          have hkw := chkM_const a1 a2 (show 1 ≤ l + 1 by omega) (show l + 1 ≤ 12 by omega)
          have HKW := hide hkw
          clear hkw HG hc05
          go_wp2_with fail
          refine (unhide CW).mono ?_
          rintro e w7 ⟨ho, E7⟩
          have HE7 := hide ((unhide HE6).trans E7)
          clear CW E7
          rcases ho with ⟨hne, -⟩ | ⟨-, s, rfl, hrs⟩
          · exact absurd (unhide HKW) hne
          have hsr : s ≠ r := unhide HNOS r s (unhide HRR) hrs
          have hsB : ((s : Int) == (r : Int)) = false := by rw [beq_eq_false_iff_ne]; omega
          clear hrs
          go_wp2
          go_ret
          exact ⟨rfl, unhide HE7⟩
    · have hl12I : ¬ (l : Int) < 12 := by omega
      have hc05 := (unhide HE5).keep (unhide HC0)
      obtain ⟨ra0, hra0⟩ : ∃ q, q = ra 0 := ⟨_, rfl⟩; rw [← hra0] at hc05; clear hra0
      obtain ⟨cp0, hcp0⟩ : ∃ q, q = cp 0 := ⟨_, rfl⟩; rw [← hcp0] at hc05; clear hcp0
      go_wp2
      go_ret
      exact ⟨rfl, unhide HE5⟩
  · have HFX := hide (show ∀ j, j < l → w4.cell? ⟨gx, j, none⟩ = some (.int .u8 (f j : Int)) from hfc)
    have HFS := hide hfs
    clear hfs hfc
    go_wp2_with fail
    refine (unhide CR4).mono ?_
    rintro e w5 ⟨ho, E5⟩
    have HE5 := hide ((unhide HE4).trans E5)
    have HFX5 := hide (fun j hj => E5.keep (unhide HFX j hj))
    clear CR4 E5
    rcases ho with ⟨hne, -⟩ | ⟨-, r, rfl, hrr⟩
    · exact absurd (unhide HCK) hne
    rw [← unhide HL] at hrr
    have HRR := hide hrr
    clear hrr
    by_cases hl12 : l < 12
    · have hl12I : (l : Int) < 12 := by omega
      have HG0 := hide (Gr.start 5 26 w5 m (l + 1) (fun _ => 0) (fun _ => 0) (besN l M lb) (by omega))
      have hc05 := (unhide HE5).keep (unhide HC0)
      obtain ⟨ra0, hra0⟩ : ∃ q, q = ra 0 := ⟨_, rfl⟩; rw [← hra0] at hc05; clear hra0
      obtain ⟨cp0, hcp0⟩ : ∃ q, q = cp 0 := ⟨_, rfl⟩; rw [← hcp0] at hc05; clear hcp0
      go_wp2
      go_loopw [73] (fun i wz => ∃ x : Nat, x ≤ m ∧ i = .int .i64 x ∧ ∃ bl cq : Nat → Nat, Hid (Gr 5 w5 wz w5.heap.size m x (l + 1) bl cq (besN l M lb) (.slice none 0 0) 0 [])) (fun i _ => m - (intOf i).toNat)
      case atStart => exact ⟨0, Nat.zero_le _, rfl, _, _, HG0⟩
      case round =>
        obtain ⟨x, hx, rfl, bl, cq, HG⟩ := hrel
        by_cases hlt : x < m
        · obtain ⟨wa, hwa⟩ : ∃ wa, wa = wr := ⟨_, rfl⟩
          subst hwa
          have HEA0 := hide ((unhide HE5).trans (unhide HG).ext)
          have hcx := (unhide HEA0).keep (unhide HCA x hlt)
          have RX := ((unhide HT).keep (unhide HEA0)).rowN hlt
          rw [unhide HLN x hlt] at RX
          obtain ⟨bx, ox, hrx, -, -⟩ := (unhide HT).row x hlt (by rw [unhide HLN x hlt]; omega)
          rw [hrx] at RX hcx
          have CC := hide (fun (W : World) (E : Ext wa W) => clone_row (some ⟨bx, ox, none⟩) l (cp x) _ W (RX.keep E) (fun u hu => by
            simp only [nats, List.mem_map] at hu
            obtain ⟨y, -, rfl⟩ := hu
            rfl) (by omega) (fun h => by cases h))
          obtain ⟨Y, hY⟩ : ∃ Y, Y = lb.getD x 0 := ⟨_, rfl⟩
          have HY := hide hY
          have hcb : wa.cell? ⟨bb, ob + x, none⟩ = some (.int .u8 (Y : Int)) := by rw [hY]; exact (unhide HEA0).keep (unhide HBC x hlt)
          have hcur := (unhide HG).cur hlt
          have hcf := (unhide HG).hd_f x hlt
          have HK := hide (fun (W : World) (E : Ext wa W) => show W.cell? ⟨bb, ob + x, none⟩ = some (.int .u8 (Y : Int)) from E.keep hcb)
          have HC2 := hide (fun (W : World) (E : Ext wa W) => show W.cell? ⟨w5.heap.size, x, none⟩ = some (.slice none 0 0) ∧ W.frozen? ⟨w5.heap.size, x, none⟩ = false from
            ⟨E.keep hcur, (E.frozen (p := ⟨w5.heap.size, x, none⟩) (unhide HG).g_hi).trans hcf⟩)
          have hbne : bb ≠ w5.heap.size := by have h1 := (unhide HE5).size; have h2 := unhide HBB; omega
          have T0 : Hold wa wa [] := Hold.nil (Ext.refl wa)
          skip
          have hxmI : (x : Int) < (m : Int) := by omega
          have hx0I : (0 : Int) ≤ (x : Int) := by omega
          clear RX hrx hY
          generalize cp x = cx at *
          have HROW := hide (show ∀ j, j < l + 1 → ((List.range l).map (M x) ++ [Y]).getD j 0 = besN l M lb x j from fun j hj => by
            unfold besN
            by_cases cc : j < l
            · rw [if_pos cc, List.getD_eq_getElem?_getD, List.getElem?_append_left (by simpa using cc)]; simp [cc]
            · obtain rfl : l = j := by omega
              rw [if_neg cc, List.getD_eq_getElem?_getD, List.getElem?_append_right (by simp), ← unhide HY]; simp)
          generalize (List.range l).map (M x) = row at *
          go_wp2
          go_region_held3 (fun W => W.cell? ⟨bb, ob + x, none⟩ = some (.int .u8 (Y : Int))) (first | exact unhide HK _ (E3.alloc _) | exact unhide HK _ E3 | exact (cell_off _ _ hbne).trans (unhide HK _ TX.ext_) | exact unhide HK _ TX.ext_ | exact unhide HK _ (Ext.refl _).drew | exact unhide HK _ ((Ext.refl _).drew.alloc _) | exact unhide HK _ ((Ext.refl _).alloc _).drew | exact unhide HK _ ((Ext.refl _).alloc _)) (first
            | (go_at_call 23; refine (unhide CC _ ?E).mono ?_; (case E => (first | exact (Ext.refl _).drew | exact ((Ext.refl _).alloc _).drew | exact ((Ext.refl _).drew.alloc _))); rintro e wb ⟨⟨vc, rfl, own⟩, E2⟩; have E3 : Ext wa wb := Ext.trans (by first | exact (Ext.refl _).drew | exact ((Ext.refl _).alloc _).drew | exact ((Ext.refl _).drew.alloc _)) E2)
            | (refine step_app_rows rfl (.tmp 81) (.tmp 86) 26 rfl byteM (Hold.push1 (Hold.more T0.drew E2 own) _ _) 0 rfl rfl [.int .u8 (Y : Int)] rfl ?hm rfl ?hb ?_; (case hm => simp); (case hb => omega); intro vx wx TX hgx; have own2 := TX.own (List.mem_cons_self); dsimp only at own2; obtain ⟨bz, cz, hu, hbz, -⟩ := row_open own2 (by omega); subst hu; obtain ⟨hcw, hcz⟩ := unhide HC2 _ TX.ext_)
            | (refine step_app_rows rfl (.tmp 81) (.tmp 86) 26 rfl byteM (Hold.more (Hold.push1 T0.drew _ _) E2 own) 1 rfl rfl [.int .u8 (Y : Int)] rfl ?hm rfl ?hb ?_; (case hm => simp); (case hb => omega); intro vx wx TX hgx; have own2 := TX.own (List.mem_cons_of_mem _ (List.mem_cons_self)); dsimp only at own2; obtain ⟨bz, cz, hu, hbz, -⟩ := row_open own2 (by omega); subst hu; obtain ⟨hcw, hcz⟩ := unhide HC2 _ TX.ext_))
          all_goals
            try dsimp only at own2
            have E4 := TX.ext_
            have TG := (unhide HG).grow hlt (v' := .slice (some ⟨bz, 0, none⟩) (l + 1) cz) (m' := l + 1) (ys := row ++ [Y]) (own_lower (by rw [← nats_append]; exact own2) (unhide HG).ext.size) E4.quietly (.inr ⟨bz, rfl, hbz⟩)
            obtain ⟨b2, hb2, TC⟩ := TG.shut hlt (by omega) rfl (f := besN l M lb x) (unhide HROW)
            have HTC := hide ((TC.congr (M' := besN l M lb) fun i j _ _ => by
              by_cases cc : i = x
              · subst cc; rw [upf_same]
              · rw [upf_ne _ _ cc]))
            clear TG TC hb2 own2 own E2 E3 E4 TX hgx T0
            go_wp2
            go_roundw
            case rel => first | exact ⟨x + 1, by omega, by go_num, ⟨_, _, HTC⟩, by first | trivial | assumption⟩ | exact ⟨x + 1, by omega, by go_num, _, _, HTC⟩
            case measure => simp [intOf]; omega
        · obtain rfl : m = x := by omega
          have HFX6 := hide (fun j hj => (unhide HG).ext.keep (unhide HFX5 j hj))
          have HE6 := hide ((unhide HE5).trans (unhide HG).ext)
          have CW := hide (Rank_any _ m m _ _ _ _ wr ((unhide HG).done (besN_lt (unhide HT).lt (unhide HL8))).tab hn)
          have hkw := chkM_const a1 a2 (show 1 ≤ l + 1 by omega) (show l + 1 ≤ 12 by omega)
          have HKW := hide hkw
          clear hkw HG hc05
          go_wp2_with fail
          refine (unhide CW).mono ?_
          rintro e w7 ⟨ho, E7⟩
          have HE7 := hide ((unhide HE6).trans E7)
          have HFX7 := hide (fun j hj => E7.keep (unhide HFX6 j hj))
          clear CW E7
          rcases ho with ⟨hne, -⟩ | ⟨-, s, rfl, hrs⟩
          · exact absurd (unhide HKW) hne
          obtain rfl : s = r := by
            rw [besN_m8] at hrs
            exact (unhide HRR).beside hrs (u := fun j => Wm.m8 (f j)) (unhide HFS)
          have hsB : ((s : Int) == (s : Int)) = true := by simp
          clear hrs
          obtain ⟨wv, hwv⟩ : ∃ wv, wv = w7 := ⟨_, rfl⟩
          subst hwv
          have HF8 := hide hf8
          obtain ⟨F, hF⟩ : ∃ F : Nat → Nat → Nat, F = fun t _ => f t := ⟨_, rfl⟩
          have HFF := hide hF
          clear hF
          go_wp2
          go_loopw [16, 111] (fun v i wr => ∃ x : Nat, x ≤ l ∧ i = .int .i64 x ∧ ∃ bl cq : Nat → Nat, Hid (Bld 26 wv wr v x bl cq 1 F)) (fun _ i _ => l - (intOf i).toNat)
          case atStart => exact ⟨0, Nat.zero_le _, rfl, _, _, hide (Bld.nil 26 wv (fun _ => 0) (fun _ => 0) 1 F)⟩
          case round =>
            obtain ⟨x, hx, rfl, bx, cq, HB⟩ := hrel
            by_cases hlt : x < l
            · have hc := (unhide HB).ext.keep (unhide HFX7 x hlt)
              obtain ⟨Y, hY⟩ : ∃ Y, Y = f x := ⟨_, rfl⟩
              rw [← hY] at hc
              have HY := hide hY
              obtain ⟨wb, hwb⟩ : ∃ wb, wb = wr := ⟨_, rfl⟩
              subst hwb
              have E1 := (Ext.refl wb).alloc (.cells #[.int .u8 (Y : Int)] 5)
              have EN := E1.alloc (.cells #[.slice (some ⟨wb.heap.size, 0, none⟩) 1 1] 26)
              have HEN := hide EN
              have HRX := hide (show ∀ j, j < 1 → ((wb.alloc (.cells #[.int .u8 (Y : Int)] 5)).alloc (.cells #[.slice (some ⟨wb.heap.size, 0, none⟩) 1 1] 26)).cell? ⟨wb.heap.size, j, none⟩ = some (.int .u8 (Y : Int)) ∧ ((wb.alloc (.cells #[.int .u8 (Y : Int)] 5)).alloc (.cells #[.slice (some ⟨wb.heap.size, 0, none⟩) 1 1] 26)).frozen? ⟨wb.heap.size, j, none⟩ = false from fun j hj => by
                obtain rfl : j = 0 := by omega
                have E2 := (Ext.refl (wb.alloc (.cells #[.int .u8 (Y : Int)] 5))).alloc (.cells #[.slice (some ⟨wb.heap.size, 0, none⟩) 1 1] 26)
                have M1 := World.ownsRow_lit (base := wb.heap.size) (e := 5) (size := 1) wb #[.int .u8 (Y : Int)] 1 (Nat.le_refl _) (by unfold maxLen; omega) rfl
                refine ⟨(E2.cell (p := ⟨wb.heap.size, 0, none⟩) (by simp)).trans (by simp), (E2.frozen (p := ⟨wb.heap.size, 0, none⟩) (by simp)).trans ((Made.of_own M1).frozen 0)⟩)
              have HG2 := hide (show wb.heap.size < ((wb.alloc (.cells #[.int .u8 (Y : Int)] 5)).alloc (.cells #[.slice (some ⟨wb.heap.size, 0, none⟩) 1 1] 26)).heap.size from by simp; omega)
              have HOB := hide ((unhide HB).keep EN).own
              have HBD := hide (show (x + 1) * 24 ≤ 140737488355328 ∧ x + 1 ≤ 9223372036854775807 by omega)
              have HBS := hide (show wv.heap.size ≤ ((wb.alloc (.cells #[.int .u8 (Y : Int)] 5)).alloc (.cells #[.slice (some ⟨wb.heap.size, 0, none⟩) 1 1] 26)).heap.size from ((unhide HB).ext.trans EN).size)
              have HONE := hide (show ([.slice (some ⟨wb.heap.size, 0, none⟩) 1 1] : List Value).all (fun u => u.oneCell') = true from by simp [Value.oneCell'])
              have HRN := hide (row_new (wb.alloc (.cells #[.int .u8 (Y : Int)] 5)) #[.slice (some ⟨wb.heap.size, 0, none⟩) 1 1] 26 1 1 rfl)
              clear hY E1 EN
              go_wp2_with (at_builtin; refine stop ?_)
              unfold Stop
              refine wpList_app_any rfl _ _ 22 (by rfl) 26 rowM wv.heap.size _ x _ (by rfl) (unhide HOB) (some ⟨wb.heap.size + 1, 0, none⟩) 1 1 [.slice (some ⟨wb.heap.size, 0, none⟩) 1 1] (by rfl) (by have := unhide HRN; simpa using this) (unhide HONE) (unhide HBD) (unhide HBS) ?_
              intro v' w6 hown6 hg6 hat6
              have HBN := hide ((unhide HB).add (unhide HEN) (b := wb.heap.size) (c := 1) (f := fun _ => Y) (Nat.le_refl _) (unhide HG2) ⟨Nat.le_refl _, by omega⟩ (unhide HRX) hown6 hg6 (by
                rcases hat6 with h | h
                · exact .inl h
                · exact .inr ⟨_, h, Nat.le_refl _⟩))
              have HBN2 := hide ((unhide HBN).congr (M' := F) fun i j hi hj => by
                by_cases c : i = x
                · subst c; rw [upf_same, unhide HY, unhide HFF]
                · rw [upf_ne _ _ c])
              clear hown6 hg6 hat6 HBN
              go_wp2
              go_roundw
              case rel => exact ⟨x + 1, by omega, by go_num, _, _, HBN2⟩
              case measure => simp [intOf]; omega
            · obtain rfl : l = x := by omega
              have hFlt : ∀ i j, F i j < 256 := fun i j => by rw [unhide HFF]; exact unhide HF8 i
              obtain ⟨gc, cc, rfl, hcc, TC⟩ := (unhide HB).done (by omega) hFlt
              have HEF := hide ((unhide HE7).trans (unhide HB).ext)
              have CX := hide (MMul_any (some ⟨ba, oa, none⟩) m c ra ln cp M _ l cc _ _ _ _ wr ((unhide HT).keep (unhide HEF)) TC.tab (by omega) (by omega))
              have x1 : mulErr m ln l (fun _ => 1) = 0 := by
                unfold mulErr
                rw [if_neg (by rw [unhide HCK]; decide), if_neg (by rw [chkM_const a3 a4 (Nat.le_refl _) (by omega)]; decide), if_neg (by rw [← unhide HL]; simp)]
              have HX1 := hide x1
              have HVAL := hide (show ∀ i, i < m → Wm.mulT l M F i 0 = lb.getD i 0 from fun i hi => by
                refine Wm.m8_inj (Wm.mulS_lt (unhide HT).lt hFlt i 0 l) (unhide HL8 i) ?_
                have h := congrFun (congrFun (Wm.mulT_mm (unhide HT).lt hFlt l) i) 0
                refine h.trans ?_
                rw [← unhide HFS i hi]
                exact sm_congr l fun j _ => by rw [show Wm.m8m F j 0 = Wm.m8 (f j) from by rw [unhide HFF]; rfl])
              clear TC HB x1 hFlt
              go_wp2_with fail
              refine (unhide CX).mono ?_
              rintro e w9 ⟨ho, E9⟩
              have HE9 := hide ((unhide HEF).trans E9)
              clear CX E9
              rcases ho with ⟨hne, -⟩ | ⟨-, -, -, -, g3, bl3, cp3, rfl, TV⟩
              · exact absurd (unhide HX1) hne
              have HTV := hide (TV.keep ((Ext.refl w9).alloc (.cells #[.int .i64 0, .int .i64 0] 23)))
              have HEA := hide ((unhide HE9).alloc (.cells #[.int .i64 0, .int .i64 0] 23))
              clear TV
              go_wp2_with (go_at_call 15; refine (good_made' [0, 0] _ _ _ _ w9 rfl rfl (by decide) (by simp)).mono ?_; rintro e wg ⟨rfl, rfl⟩)
              obtain ⟨wq, hwq⟩ : ∃ wq, wq = w9.alloc (.cells #[.int .i64 0, .int .i64 0] 23) := ⟨_, rfl⟩
              rw [← hwq] at HTV HEA ⊢
              clear hwq
              go_loopw [141] (fun i wz => ∃ x : Nat, x ≤ m ∧ i = .int .i64 x ∧ ∃ q : Nat, wz = wq.drewN q) (fun i _ => m - (intOf i).toNat)
              case atStart => exact ⟨0, Nat.zero_le _, rfl, 0, rfl⟩
              case round =>
                obtain ⟨x, hx, rfl, q, rfl⟩ := hrel
                by_cases hlt : x < m
                · obtain ⟨wy, hwy⟩ : ∃ wy, wy = wq.drewN q := ⟨_, rfl⟩
                  have HWY := hide hwy
                  have ED : Ext wq wy := by rw [hwy]; exact (Ext.refl wq).drewN q
                  rw [← hwy]
                  clear hwy
                  have hcb := ((unhide HEA).trans ED).keep (unhide HBC x hlt)
                  have hh := ((unhide HTV).keep ED).hd x hlt
                  have hv := ((unhide HTV).keep ED).cell x 0 hlt (by omega)
                  rw [unhide HVAL x hlt] at hv
                  clear ED
                  generalize lb.getD x 0 = Y at *
                  have hYB : ((Y : Int) != (Y : Int)) = false := by simp
                  generalize bl3 x = b3 at *
                  generalize cp3 x = c3 at *
                  have hxmI : (x : Int) < (m : Int) := by omega
                  have hx0I : (0 : Int) ≤ (x : Int) := by omega
                  go_upto_region 32 with fail
                  go_quiet (fail)
                  go_wp2
                  go_roundw
                  case rel => exact ⟨x + 1, by omega, by go_num, q + nq, by rw [unhide HWY, World.drewN_drewN]⟩
                  case measure => simp [intOf]; omega
                · obtain rfl : m = x := by omega
                  go_wp2
                  go_ret
                  exact ⟨rfl, (unhide HEA).drewN q⟩
    · have hl12I : ¬ (l : Int) < 12 := by omega
      have hc05 := (unhide HE5).keep (unhide HC0)
      obtain ⟨ra0, hra0⟩ : ∃ q, q = ra 0 := ⟨_, rfl⟩
      rw [← hra0] at hc05
      clear hra0
      obtain ⟨cp0, hcp0⟩ : ∃ q, q = cp 0 := ⟨_, rfl⟩
      rw [← hcp0] at hc05
      clear hcp0
      obtain ⟨wv, hwv⟩ : ∃ wv, wv = w5 := ⟨_, rfl⟩
      subst hwv
      have HF8 := hide hf8
      obtain ⟨F, hF⟩ : ∃ F : Nat → Nat → Nat, F = fun t _ => f t := ⟨_, rfl⟩
      have HFF := hide hF
      clear hF
      go_wp2
      go_loopw [16, 111] (fun v i wr => ∃ x : Nat, x ≤ l ∧ i = .int .i64 x ∧ ∃ bl cq : Nat → Nat, Hid (Bld 26 wv wr v x bl cq 1 F)) (fun _ i _ => l - (intOf i).toNat)
      case atStart => exact ⟨0, Nat.zero_le _, rfl, _, _, hide (Bld.nil 26 wv (fun _ => 0) (fun _ => 0) 1 F)⟩
      case round =>
        obtain ⟨x, hx, rfl, bx, cq, HB⟩ := hrel
        by_cases hlt : x < l
        · have hc := (unhide HB).ext.keep (unhide HFX5 x hlt)
          obtain ⟨Y, hY⟩ : ∃ Y, Y = f x := ⟨_, rfl⟩
          rw [← hY] at hc
          have HY := hide hY
          obtain ⟨wb, hwb⟩ : ∃ wb, wb = wr := ⟨_, rfl⟩
          subst hwb
          have E1 := (Ext.refl wb).alloc (.cells #[.int .u8 (Y : Int)] 5)
          have EN := E1.alloc (.cells #[.slice (some ⟨wb.heap.size, 0, none⟩) 1 1] 26)
          have HEN := hide EN
          have HRX := hide (show ∀ j, j < 1 → ((wb.alloc (.cells #[.int .u8 (Y : Int)] 5)).alloc (.cells #[.slice (some ⟨wb.heap.size, 0, none⟩) 1 1] 26)).cell? ⟨wb.heap.size, j, none⟩ = some (.int .u8 (Y : Int)) ∧ ((wb.alloc (.cells #[.int .u8 (Y : Int)] 5)).alloc (.cells #[.slice (some ⟨wb.heap.size, 0, none⟩) 1 1] 26)).frozen? ⟨wb.heap.size, j, none⟩ = false from fun j hj => by
            obtain rfl : j = 0 := by omega
            have E2 := (Ext.refl (wb.alloc (.cells #[.int .u8 (Y : Int)] 5))).alloc (.cells #[.slice (some ⟨wb.heap.size, 0, none⟩) 1 1] 26)
            have M1 := World.ownsRow_lit (base := wb.heap.size) (e := 5) (size := 1) wb #[.int .u8 (Y : Int)] 1 (Nat.le_refl _) (by unfold maxLen; omega) rfl
            refine ⟨(E2.cell (p := ⟨wb.heap.size, 0, none⟩) (by simp)).trans (by simp), (E2.frozen (p := ⟨wb.heap.size, 0, none⟩) (by simp)).trans ((Made.of_own M1).frozen 0)⟩)
          have HG2 := hide (show wb.heap.size < ((wb.alloc (.cells #[.int .u8 (Y : Int)] 5)).alloc (.cells #[.slice (some ⟨wb.heap.size, 0, none⟩) 1 1] 26)).heap.size from by simp; omega)
          have HOB := hide ((unhide HB).keep EN).own
          have HBD := hide (show (x + 1) * 24 ≤ 140737488355328 ∧ x + 1 ≤ 9223372036854775807 by omega)
          have HBS := hide (show wv.heap.size ≤ ((wb.alloc (.cells #[.int .u8 (Y : Int)] 5)).alloc (.cells #[.slice (some ⟨wb.heap.size, 0, none⟩) 1 1] 26)).heap.size from ((unhide HB).ext.trans EN).size)
          have HONE := hide (show ([.slice (some ⟨wb.heap.size, 0, none⟩) 1 1] : List Value).all (fun u => u.oneCell') = true from by simp [Value.oneCell'])
          have HRN := hide (row_new (wb.alloc (.cells #[.int .u8 (Y : Int)] 5)) #[.slice (some ⟨wb.heap.size, 0, none⟩) 1 1] 26 1 1 rfl)
          clear hY E1 EN
          go_wp2_with (at_builtin; refine stop ?_)
          unfold Stop
          refine wpList_app_any rfl _ _ 22 (by rfl) 26 rowM wv.heap.size _ x _ (by rfl) (unhide HOB) (some ⟨wb.heap.size + 1, 0, none⟩) 1 1 [.slice (some ⟨wb.heap.size, 0, none⟩) 1 1] (by rfl) (by have := unhide HRN; simpa using this) (unhide HONE) (unhide HBD) (unhide HBS) ?_
          intro v' w6 hown6 hg6 hat6
          have HBN := hide ((unhide HB).add (unhide HEN) (b := wb.heap.size) (c := 1) (f := fun _ => Y) (Nat.le_refl _) (unhide HG2) ⟨Nat.le_refl _, by omega⟩ (unhide HRX) hown6 hg6 (by
            rcases hat6 with h | h
            · exact .inl h
            · exact .inr ⟨_, h, Nat.le_refl _⟩))
          have HBN2 := hide ((unhide HBN).congr (M' := F) fun i j hi hj => by
            by_cases c : i = x
            · subst c; rw [upf_same, unhide HY, unhide HFF]
            · rw [upf_ne _ _ c])
          clear hown6 hg6 hat6 HBN
          go_wp2
          go_roundw
          case rel => exact ⟨x + 1, by omega, by go_num, _, _, HBN2⟩
          case measure => simp [intOf]; omega
        · obtain rfl : l = x := by omega
          have hFlt : ∀ i j, F i j < 256 := fun i j => by rw [unhide HFF]; exact unhide HF8 i
          obtain ⟨gc, cc, rfl, hcc, TC⟩ := (unhide HB).done (by omega) hFlt
          have HEF := hide ((unhide HE5).trans (unhide HB).ext)
          have CX := hide (MMul_any (some ⟨ba, oa, none⟩) m c ra ln cp M _ l cc _ _ _ _ wr ((unhide HT).keep (unhide HEF)) TC.tab (by omega) (by omega))
          have x1 : mulErr m ln l (fun _ => 1) = 0 := by
            unfold mulErr
            rw [if_neg (by rw [unhide HCK]; decide), if_neg (by rw [chkM_const a3 a4 (Nat.le_refl _) (by omega)]; decide), if_neg (by rw [← unhide HL]; simp)]
          have HX1 := hide x1
          have HVAL := hide (show ∀ i, i < m → Wm.mulT l M F i 0 = lb.getD i 0 from fun i hi => by
            refine Wm.m8_inj (Wm.mulS_lt (unhide HT).lt hFlt i 0 l) (unhide HL8 i) ?_
            have h := congrFun (congrFun (Wm.mulT_mm (unhide HT).lt hFlt l) i) 0
            refine h.trans ?_
            rw [← unhide HFS i hi]
            exact sm_congr l fun j _ => by rw [show Wm.m8m F j 0 = Wm.m8 (f j) from by rw [unhide HFF]; rfl])
          clear TC HB x1 hFlt
          go_wp2_with fail
          refine (unhide CX).mono ?_
          rintro e w9 ⟨ho, E9⟩
          have HE9 := hide ((unhide HEF).trans E9)
          clear CX E9
          rcases ho with ⟨hne, -⟩ | ⟨-, -, -, -, g3, bl3, cp3, rfl, TV⟩
          · exact absurd (unhide HX1) hne
          have HTV := hide (TV.keep ((Ext.refl w9).alloc (.cells #[.int .i64 0, .int .i64 0] 23)))
          have HEA := hide ((unhide HE9).alloc (.cells #[.int .i64 0, .int .i64 0] 23))
          clear TV
          go_wp2_with (go_at_call 15; refine (good_made' [0, 0] _ _ _ _ w9 rfl rfl (by decide) (by simp)).mono ?_; rintro e wg ⟨rfl, rfl⟩)
          obtain ⟨wq, hwq⟩ : ∃ wq, wq = w9.alloc (.cells #[.int .i64 0, .int .i64 0] 23) := ⟨_, rfl⟩
          rw [← hwq] at HTV HEA ⊢
          clear hwq
          go_loopw [141] (fun i wz => ∃ x : Nat, x ≤ m ∧ i = .int .i64 x ∧ ∃ q : Nat, wz = wq.drewN q) (fun i _ => m - (intOf i).toNat)
          case atStart => exact ⟨0, Nat.zero_le _, rfl, 0, rfl⟩
          case round =>
            obtain ⟨x, hx, rfl, q, rfl⟩ := hrel
            by_cases hlt : x < m
            · obtain ⟨wy, hwy⟩ : ∃ wy, wy = wq.drewN q := ⟨_, rfl⟩
              have HWY := hide hwy
              have ED : Ext wq wy := by rw [hwy]; exact (Ext.refl wq).drewN q
              rw [← hwy]
              clear hwy
              have hcb := ((unhide HEA).trans ED).keep (unhide HBC x hlt)
              have hh := ((unhide HTV).keep ED).hd x hlt
              have hv := ((unhide HTV).keep ED).cell x 0 hlt (by omega)
              rw [unhide HVAL x hlt] at hv
              clear ED
              generalize lb.getD x 0 = Y at *
              have hYB : ((Y : Int) != (Y : Int)) = false := by simp
              generalize bl3 x = b3 at *
              generalize cp3 x = c3 at *
              have hxmI : (x : Int) < (m : Int) := by omega
              have hx0I : (0 : Int) ≤ (x : Int) := by omega
              go_upto_region 32 with fail
              go_quiet (fail)
              go_wp2
              go_roundw
              case rel => exact ⟨x + 1, by omega, by go_num, q + nq, by rw [unhide HWY, World.drewN_drewN]⟩
              case measure => simp [intOf]; omega
            · obtain rfl : m = x := by omega
              go_wp2
              go_ret
              exact ⟨rfl, (unhide HEA).drewN q⟩
--}
end Go.Proofs.Ytifkphlbjjdigaa

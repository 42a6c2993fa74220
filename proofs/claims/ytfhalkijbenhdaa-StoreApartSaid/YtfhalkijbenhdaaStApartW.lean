/-
  The walk of the law StoreApart.
-/
import Derived.Test.YtfhalkijbenhdaaStApart0
import Derived.Test.YtfhalkijbenhdaaArith1
set_option linter.unusedVariables false
set_option linter.unusedSimpArgs false
namespace Go.Proofs.Ytfhalkijbenhdaa
open Go.RowKit Go.BigFrame

set_option maxRecDepth 100000 in
set_option maxHeartbeats 8000000 in
theorem apart_law (n0 k0 x0 y0 : Int) (B : Option Addr) (m2 c2 : Nat) (l2 : List Dd) (key0 : Int) (w : World)
    (S2 : SliceIn w B m2 c2 4 40 (dds l2)) (h2 : ∀ d ∈ l2, (d.s.size : Int) ≤ 9223372036854775807) :
    Calls Try.prog 7 #[.agg #[.int .i64 n0, .int .i64 k0, .int .i64 x0, .int .i64 y0], .slice B m2 c2, .int .i64 key0] w fun e w' => e = .returned (.bool true) ∧ Ext w w' := by
  obtain ⟨R2, hnc2, hrb2, -, -⟩ := S2
  have HR2 := hide R2
  have HH2 := hide h2
  have hm2 : m2 ≤ 4611686018427387904 := by omega
  clear R2 h2 hrb2 hnc2
  obtain ⟨W0, hW0⟩ : ∃ W0, W0 = w.alloc (.cells #[.int .i64 n0, .int .i64 k0, .int .i64 x0, .int .i64 y0] 23) := ⟨_, rfl⟩
  have HW0 := hide hW0
  have HE0 := hide (show Ext w W0 by rw [hW0]; exact (Ext.refl w).alloc _)
  have Q0 := hide (show W0.cell? ⟨w.heap.size, 0, none⟩ = some (.int .i64 n0) by rw [hW0, new_cell]; rfl)
  have Q1 := hide (show W0.cell? ⟨w.heap.size, 1, none⟩ = some (.int .i64 k0) by rw [hW0, new_cell]; rfl)
  have Q2 := hide (show W0.cell? ⟨w.heap.size, 2, none⟩ = some (.int .i64 x0) by rw [hW0, new_cell]; rfl)
  have Q3 := hide (show W0.cell? ⟨w.heap.size, 3, none⟩ = some (.int .i64 y0) by rw [hW0, new_cell]; rfl)
  clear hW0
  go_enter Try.func7, Try.ntmps7
  go_wp2_with fail
  rw [← unhide HW0]
  refine (kept_ok _).mono ?_
  rintro e w1 ⟨rfl, E1⟩
  have q0 := E1.keep (unhide Q0)
  have q1 := E1.keep (unhide Q1)
  have q2 := E1.keep (unhide Q2)
  have q3 := E1.keep (unhide Q3)
  have HE1 := hide ((unhide HE0).trans E1)
  by_cases hq : qErr n0 k0 x0 y0 = 0
  · obtain ⟨N, K, Wq, Rq, rfl, rfl, rfl, rfl, hq', a1, a2, a3, a4, a5⟩ := qErr_nat hq
    have O := okNew a1 a2 a3 a4 a5
    have CW := hide (fun (W : World) (E : Ext w W) => worked_ok hq' O none 0 0 [] W Row.none_ (by omega) (fun d h => by simp at h))
    obtain ⟨key, hkey⟩ : ∃ key : Nat, (key : Int) = key0 % 3 := ⟨(key0 % 3).toNat, by omega⟩
    have hk3 : key < 3 := by omega
    have CWI := hide (fun (W : World) => within_any key0 3 W (by omega) (by omega))
    rw [← hkey] at CWI
    clear hkey
    obtain ⟨H1, O1⟩ := Sto.Ok.runs O []
    have HAP := Sto.Apart.start (Sto.new N K Wq Rq) key (fun _ => rfl)
    have hwr : (Sto.new N K Wq Rq).wr ≤ 0 := Nat.le_refl _
    rw [show (Sto.new N K Wq Rq).run [] = Sto.new N K Wq Rq from rfl] at CW O1
    obtain ⟨σ, hσ⟩ : ∃ σ, σ = Sto.new N K Wq Rq := ⟨_, rfl⟩
    rw [← hσ] at CW O1 HAP hwr
    have HO1 := hide (show ∃ H, Sto.Ok σ H from ⟨_, O1⟩)
    have HA1 := hide (show ∃ φ, Sto.Apart σ σ key φ from ⟨_, HAP⟩)
    have HWR := hide hwr
    clear HAP hwr
    have HK := hide (fun W (E : Ext w1 W) => show W.cell? ⟨w.heap.size, 0, none⟩ = some (.int .i64 (N : Int)) ∧ W.cell? ⟨w.heap.size, 1, none⟩ = some (.int .i64 (K : Int)) ∧ W.cell? ⟨w.heap.size, 2, none⟩ = some (.int .i64 (Wq : Int)) ∧ W.cell? ⟨w.heap.size, 3, none⟩ = some (.int .i64 (Rq : Int)) from ⟨E.keep q0, E.keep q1, E.keep q2, E.keep q3⟩)
    clear hσ hq hq' a1 a2 a3 a4 a5 O O1
    go_upto_region 3 with fail
    apply share3 (A := fun p1 p2 w' => ∃ g1 g2, Two w.heap.size w' w'.heap.size p1 g1 p2 g2 σ σ ∧ Ext w1 w')
    · intro H
      go_region_held3 (fun W => W.cell? ⟨w.heap.size, 0, none⟩ = some (.int .i64 (N : Int)) ∧ W.cell? ⟨w.heap.size, 1, none⟩ = some (.int .i64 (K : Int)) ∧ W.cell? ⟨w.heap.size, 2, none⟩ = some (.int .i64 (Wq : Int)) ∧ W.cell? ⟨w.heap.size, 3, none⟩ = some (.int .i64 (Rq : Int))) (first | exact unhide HK _ E1b | exact unhide HK _ E1a | exact unhide HK _ (Ext.refl _).drew) (first
        | (go_at_call 12; refine (unhide CW _ ((unhide HE1).trans E1a)).mono ?_; rintro e w3 ⟨⟨pb, gb, vb, rfl, Sb⟩, Eb⟩; have E1b : Ext w1 w3 := E1a.trans Eb)
        | (go_at_call 12; refine (unhide CW _ ((unhide HE1).trans (Ext.refl _).drew)).mono ?_; rintro e w2 ⟨⟨pa, ga, va, rfl, Sa⟩, Ea⟩; have E1a : Ext w1 w2 := Ext.trans (Ext.refl w1).drew Ea))
      all_goals
        have TT := Two.make (Sa.mono (b1 := w.heap.size) (unhide HE1).size) Eb Sb (Nat.le_refl _) ((unhide HE1).trans E1a).size
        first | exact H pa pb w3 ⟨ga, gb, TT, E1b⟩ | exact H pb pa w3 ⟨gb, ga, TT.swap, E1b⟩
    rintro p1 p2 w2 ⟨g1, g2, TT, E2⟩
    have HT2 := hide TT
    have HE2 := hide ((unhide HE1).trans E2)
    clear TT E2 HK CW q0 q1 q2 q3 E1
    by_cases hmm : 100000 < m2
    · have hmI : (100000 : Int) < (m2 : Int) := by omega
      clear hmm
      go_wp2
      go_ret
      exact ⟨rfl, unhide HE2⟩
    · have hmI : decide ((100000 : Int) < (m2 : Int)) = false := decide_eq_false (by omega)
      have HMM := hide (show m2 ≤ 100000 by omega)
      clear hmm
      go_wp2_with fail
      refine (unhide CWI _).mono ?_
      rintro e w3 ⟨rfl, rfl⟩
      clear CWI hmI
      go_wp2
      go_loopw [38] (fun i wr => ∃ x : Nat, x ≤ m2 ∧ i = .int .i64 x ∧ ∃ top σ' τ', Hid (Two w.heap.size wr top p1 g1 p2 g2 σ' τ') ∧ Hid (top ≤ wr.heap.size) ∧ Hid (∃ H, Sto.Ok σ' H) ∧ Hid (∃ H, Sto.Ok τ' H) ∧ Hid (σ'.wr ≤ x) ∧ Hid (∃ φ, Sto.Apart σ' τ' key φ) ∧ Hid (Ext w wr)) (fun i _ => m2 - (intOf i).toNat)
      case atStart => exact ⟨0, Nat.zero_le _, rfl, _, σ, σ, HT2, hide (Nat.le_refl _), HO1, HO1, HWR, HA1, HE2⟩
      case round =>
        obtain ⟨x, hx, rfl, top, σ', τ', HT, HTOP, HO, HOT, HWX, HAP, HE⟩ := hrel
        by_cases hlt : x < m2
        · obtain ⟨b, o, rfl, hb, c1, c2, c3, c4⟩ := ((unhide HR2).keep (unhide HE)).dd hlt
          have hxl : x < l2.length := by rw [(unhide HR2).ddn]; exact hlt
          have hsz := unhide HH2 _ (dg_mem hxl)
          have hxI : (x : Int) < (m2 : Int) := by omega
          generalize (dg l2 x).kind = d1 at *
          generalize (dg l2 x).key = d2 at *
          generalize (dg l2 x).n = d3 at *
          generalize (dg l2 x).s = d4 at *
          obtain ⟨wb, hwb⟩ : ∃ wb, wb = wr.alloc (.cells #[.int .i64 d1, .int .i64 d2, .int .i64 d3, .string d4] 37) := ⟨_, rfl⟩
          have HWB := hide hwb
          have Eb : Ext wr wb := by rw [hwb]; exact (Ext.refl wr).alloc _
          have B0 := hide (show wb.cell? ⟨wr.heap.size, 0, none⟩ = some (.int .i64 d1) by rw [hwb, new_cell]; rfl)
          have B1 := hide (show wb.cell? ⟨wr.heap.size, 1, none⟩ = some (.int .i64 d2) by rw [hwb, new_cell]; rfl)
          have B2 := hide (show wb.cell? ⟨wr.heap.size, 2, none⟩ = some (.int .i64 d3) by rw [hwb, new_cell]; rfl)
          have B3 := hide (show wb.cell? ⟨wr.heap.size, 3, none⟩ = some (.string d4) by rw [hwb, new_cell]; rfl)
          have htop := unhide HTOP
          obtain ⟨Hs, Os⟩ := unhide HO
          obtain ⟨Ht, Ot⟩ := unhide HOT
          obtain ⟨φ, AP⟩ := unhide HAP
          have hsum : IntKind.i64.wrap ((x : Int) + 1) = (x : Int) + 1 := IntWalk.i64_in _ (by omega)
          have hwx := unhide HWX
          have HWX' := hide (show (σ'.doS d1 d2 d3 d4).2.wr ≤ x + 1 from Nat.le_trans (Sto.doS_wr σ' d1 d2 d3 d4) (by omega))
          have hwm : σ'.wr < 1000000 := by have := unhide HMM; omega
          have CD := hide (((unhide HT).keep Eb).left Os.fine (Nat.le_trans htop Eb.size) d1 d2 d3 d4 hsz)
          have HEb := hide ((unhide HE).trans Eb)
          have HO2 := hide (show ∃ H, Sto.Ok (σ'.doS d1 d2 d3 d4).2 H from ⟨_, Os.do_ d1 d2 d3 d4⟩)
          have HOT2 := hide (show ∃ H, Sto.Ok (τ'.doS d1 d2 d3 d4).2 H from ⟨_, Ot.do_ d1 d2 d3 d4⟩)
          have CR := hide (fun (W : World) (top : Nat) (T : Two w.heap.size W top p1 g1 p2 g2 (σ'.doS d1 d2 d3 d4).2 τ') (ht : top ≤ W.heap.size) => T.right Ot.fine ht d1 d2 d3 d4 hsz)
          have HBOTH := hide (AP.both hwm d1 d2 d3 d4)
          have HALONE := hide (AP.alone d1 d2 d3 d4)
          clear hwb hxl hsz AP Os Ot hwx hwm HWX HO HAP HT
          by_cases hal : d1 ≠ 4 ∧ d1 ≠ 5 ∧ d1 ≠ 6 ∧ d2 ≠ (key : Int)
          · have HAP2 := hide (unhide HALONE hal.1 hal.2.1 hal.2.2.1 hal.2.2.2)
            have e4 : (d1 != 4) = true := by rw [bne_iff_ne]; exact hal.1
            have e5 : (d1 != 5) = true := by rw [bne_iff_ne]; exact hal.2.1
            have e6 : (d1 != 6) = true := by rw [bne_iff_ne]; exact hal.2.2.1
            have ek : (d2 != (key : Int)) = true := by rw [bne_iff_ne]; exact hal.2.2.2
            clear hal HBOTH HALONE CR
            go_wp2_with fail
            rw [← unhide HWB]
            refine (unhide CD).mono ?_
            rintro e w5 ⟨rfl, T5, C5, X5, hs5⟩
            have b1 := C5 ⟨wr.heap.size, 1, none⟩ _ htop (unhide B1)
            obtain ⟨an, han⟩ : ∃ an, an = (σ'.doS d1 d2 d3 d4).1 := ⟨_, rfl⟩
            rw [← han]
            clear han
            obtain ⟨tx, at_, mn, er⟩ := an
            rw [show tellV ⟨tx, at_, mn, er⟩ = .tuple #[.agg #[.string tx, .int .i64 (at_ : Int), .int .i64 0, .int .i64 (mn : Int)], .int .i64 er] from rfl]
            obtain ⟨wc, hwc⟩ : ∃ wc, wc = w5.alloc (.cells #[.string tx, .int .i64 (at_ : Int), .int .i64 0, .int .i64 (mn : Int)] 33) := ⟨_, rfl⟩
            have HWC := hide hwc
            have Ec : Ext w5 wc := by rw [hwc]; exact (Ext.refl w5).alloc _
            have HEc := hide ((X5 w (unhide HEb) (Nat.le_refl _)).trans Ec)
            have HTc := hide (T5.keep Ec)
            have HSc := hide Ec.size
            have b1A := fun o => ((Ext.refl w5).alloc o).keep b1
            clear hwc Ec T5 C5 X5 CD B0 B1 B2 B3 b1
            go_wp2
            rw [← unhide HWC]
            go_roundw
            case rel => exact ⟨x + 1, by omega, by go_num, w5.heap.size, _, _, HTc, HSc, HO2, HOT, HWX', hide ⟨_, unhide HAP2⟩, HEc⟩
            case measure => simp [intOf]; omega
          · have hcs : d1 = 4 ∨ d1 = 5 ∨ d1 = 6 ∨ (d1 ≠ 4 ∧ d1 ≠ 5 ∧ d1 ≠ 6 ∧ d2 = (key : Int)) := by
              by_cases h4 : d1 = 4
              · exact .inl h4
              by_cases h5 : d1 = 5
              · exact .inr (.inl h5)
              by_cases h6 : d1 = 6
              · exact .inr (.inr (.inl h6))
              exact .inr (.inr (.inr ⟨h4, h5, h6, Classical.byContradiction fun h => hal ⟨h4, h5, h6, h⟩⟩))
            have hB := unhide HBOTH (by
              rcases hcs with h | h | h | h
              · exact .inl h
              · exact .inr (.inl h)
              · exact .inr (.inr (.inl h))
              · exact .inr (.inr (.inr h.2.2.2)))
            obtain ⟨hlike, ψ, AP2⟩ := hB
            have HAP2 := hide AP2
            have HLIKE := hide hlike
            clear hal HBOTH HALONE hlike AP2
            have hall : ∀ {q : Prop}, (((d1 != 4) = false ∨ ((d1 != 4) = true ∧ (d1 != 5) = false) ∨ ((d1 != 4) = true ∧ (d1 != 5) = true ∧ (d1 != 6) = false) ∨ ((d1 != 4) = true ∧ (d1 != 5) = true ∧ (d1 != 6) = true ∧ (d2 != (key : Int)) = false)) → q) → q := fun f => f (by
              rcases hcs with rfl | rfl | rfl | ⟨h4, h5, h6, h⟩
              · exact .inl rfl
              · exact .inr (.inl ⟨rfl, rfl⟩)
              · exact .inr (.inr (.inl ⟨rfl, rfl, rfl⟩))
              · exact .inr (.inr (.inr ⟨by rw [bne_iff_ne]; exact h4, by rw [bne_iff_ne]; exact h5, by rw [bne_iff_ne]; exact h6, by rw [h]; simp⟩)))
            clear hcs
            refine hall ?_
            clear hall
            rintro (e4 | ⟨e4, e5⟩ | ⟨e4, e5, e6⟩ | ⟨e4, e5, e6, ek⟩)
            all_goals
              go_wp2_with fail
              rw [← unhide HWB]
              refine (unhide CD).mono ?_
              rintro e w5 ⟨rfl, T5, C5, X5, -⟩
              have b0 := C5 ⟨wr.heap.size, 0, none⟩ _ htop (unhide B0)
              have b1 := C5 ⟨wr.heap.size, 1, none⟩ _ htop (unhide B1)
              have b2 := C5 ⟨wr.heap.size, 2, none⟩ _ htop (unhide B2)
              have b3 := C5 ⟨wr.heap.size, 3, none⟩ _ htop (unhide B3)
              have HE5 := hide (X5 w (unhide HEb) (Nat.le_refl _))
              have HT5 := hide T5
              obtain ⟨an, han⟩ : ∃ an, an = (σ'.doS d1 d2 d3 d4).1 := ⟨_, rfl⟩
              obtain ⟨am, ham⟩ : ∃ am, am = (τ'.doS d1 d2 d3 d4).1 := ⟨_, rfl⟩
              rw [← han, ← ham] at HLIKE
              rw [← han]
              rw [← ham] at CR
              clear T5 C5 X5 CD B0 B1 B2 B3 han ham
              obtain ⟨tx, at_, mn, er⟩ := an
              obtain ⟨tx2, at2, mn2, er2⟩ := am
              obtain ⟨l1, l2', l3⟩ := unhide HLIKE
              simp only at l1 l2' l3
              subst l1 l2' l3
              clear HLIKE
              rw [show tellV ⟨tx, at_, mn, er⟩ = .tuple #[.agg #[.string tx, .int .i64 (at_ : Int), .int .i64 0, .int .i64 (mn : Int)], .int .i64 er] from rfl]
              rw [show tellV ⟨tx, at2, mn, er⟩ = .tuple #[.agg #[.string tx, .int .i64 (at2 : Int), .int .i64 0, .int .i64 (mn : Int)], .int .i64 er] from rfl] at CR
              obtain ⟨wc, hwc⟩ : ∃ wc, wc = w5.alloc (.cells #[.string tx, .int .i64 (at_ : Int), .int .i64 0, .int .i64 (mn : Int)] 33) := ⟨_, rfl⟩
              have HWC := hide hwc
              have Ec : Ext w5 wc := by rw [hwc]; exact (Ext.refl w5).alloc _
              have X0 := hide (show wc.cell? ⟨w5.heap.size, 0, none⟩ = some (.string tx) by rw [hwc, new_cell]; rfl)
              have X3 := hide (show wc.cell? ⟨w5.heap.size, 3, none⟩ = some (.int .i64 (mn : Int)) by rw [hwc, new_cell]; rfl)
              have b1A := fun o => ((Ext.refl w5).alloc o).keep b1
              have y0' := Ec.keep b0
              have y1' := Ec.keep b1
              have y2' := Ec.keep b2
              have y3' := Ec.keep b3
              have HTc := hide ((unhide HT5).keep Ec)
              have HEc := hide ((unhide HE5).trans Ec)
              have hsc := Ec.size
              clear hwc Ec b0 b1 b2 b3
              go_upto_region 15 with fail
              rw [← unhide HWC]
              go_wp2_with fail
              refine (unhide CR _ _ (unhide HTc) hsc).mono ?_
              rintro e w6 ⟨rfl, T6, C6, X6, -⟩
              have y0 := C6 ⟨w5.heap.size, 0, none⟩ _ (Nat.le_refl _) (unhide X0)
              have y3 := C6 ⟨w5.heap.size, 3, none⟩ _ (Nat.le_refl _) (unhide X3)
              obtain ⟨wd, hwd⟩ : ∃ wd, wd = w6.alloc (.cells #[.string tx, .int .i64 (at2 : Int), .int .i64 0, .int .i64 (mn : Int)] 33) := ⟨_, rfl⟩
              have HWD := hide hwd
              have Ed : Ext w6 wd := by rw [hwd]; exact (Ext.refl w6).alloc _
              have HEd := hide ((X6 w (unhide HEc) (Nat.le_refl _)).trans Ed)
              have HTd := hide (T6.keep Ed)
              have HSd := hide Ed.size
              have z0 := Ed.keep y0
              have z3 := Ed.keep y3
              have t0 : wd.cell? ⟨w6.heap.size, 0, none⟩ = some (.string tx) := by rw [hwd, new_cell]; rfl
              have t3 : wd.cell? ⟨w6.heap.size, 3, none⟩ = some (.int .i64 (mn : Int)) := by rw [hwd, new_cell]; rfl
              have hB2 : (er != er) = false := by simp
              clear hwd Ed T6 C6 X6 CR X0 X3 y0 y3 y0' y1' y2' y3' b1A
              go_upto_region 16 with fail
              rw [← unhide HWD]
              go_wp2
              go_roundw
              case rel => exact ⟨x + 1, by omega, by go_num, _, _, _, HTd, HSd, HO2, HOT2, HWX', hide ⟨_, unhide HAP2⟩, HEd⟩
              case measure => simp [intOf]; omega
        · obtain rfl : m2 = x := by omega
          go_wp2
          go_ret
          exact ⟨rfl, unhide HE⟩
  · have CW := hide (fun (W : World) => worked_bad n0 k0 x0 y0 none 0 0 W hq)
    have CQ := hide (fun (W : World) => qchk_ok n0 k0 x0 y0 W)
    have HK := hide (fun W (E : Ext w1 W) => show W.cell? ⟨w.heap.size, 0, none⟩ = some (.int .i64 n0) ∧ W.cell? ⟨w.heap.size, 1, none⟩ = some (.int .i64 k0) ∧ W.cell? ⟨w.heap.size, 2, none⟩ = some (.int .i64 x0) ∧ W.cell? ⟨w.heap.size, 3, none⟩ = some (.int .i64 y0) from ⟨E.keep q0, E.keep q1, E.keep q2, E.keep q3⟩)
    have hB : (qErr n0 k0 x0 y0 != 0) = true := by rw [bne_iff_ne]; exact hq
    generalize qErr n0 k0 x0 y0 = r at *
    clear hq q0 q1 q2 q3 E1
    go_upto_region 3 with fail
    apply share1 (A := fun w' => Ext w1 w')
    · intro H
      go_region_held3 (fun W => W.cell? ⟨w.heap.size, 0, none⟩ = some (.int .i64 n0) ∧ W.cell? ⟨w.heap.size, 1, none⟩ = some (.int .i64 k0) ∧ W.cell? ⟨w.heap.size, 2, none⟩ = some (.int .i64 x0) ∧ W.cell? ⟨w.heap.size, 3, none⟩ = some (.int .i64 y0)) (first | exact unhide HK _ E1b | exact unhide HK _ E1a | exact unhide HK _ (Ext.refl _).drew) (first
        | (go_at_call 12; refine (unhide CW _).mono ?_; rintro e w3 ⟨rfl, Eb⟩; have E1b : Ext w1 w3 := E1a.trans Eb)
        | (go_at_call 12; refine (unhide CW _).mono ?_; rintro e w2 ⟨rfl, Ea⟩; have E1a : Ext w1 w2 := Ext.trans (Ext.refl w1).drew Ea))
      all_goals exact H w3 E1b
    rintro w2 E2
    obtain ⟨q0, q1, q2, q3⟩ := unhide HK _ E2
    have HE2 := hide ((unhide HE1).trans E2)
    clear E2 CW
    go_wp2_with fail
    refine (unhide CQ _).mono ?_
    rintro e w3 ⟨rfl, E3⟩
    go_wp2
    go_ret
    exact ⟨rfl, (unhide HE2).trans E3⟩
end Go.Proofs.Ytfhalkijbenhdaa

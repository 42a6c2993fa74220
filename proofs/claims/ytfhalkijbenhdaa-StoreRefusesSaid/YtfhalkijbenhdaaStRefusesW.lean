/-
  The walk of the law StoreRefuses.
-/
import Derived.Test.YtfhalkijbenhdaaSto22
set_option linter.unusedVariables false
set_option linter.unusedSimpArgs false
namespace Go.Proofs.Ytfhalkijbenhdaa
open Go.RowKit Go.BigFrame

set_option maxRecDepth 100000 in
set_option maxHeartbeats 8000000 in
theorem refuses_law (n0 k0 x0 y0 : Int) (A : Option Addr) (m c : Nat) (l : List Dd) (e1 e2 e3 : Int) (e4 : ByteArray) (B : Option Addr) (m2 c2 : Nat) (l2 : List Dd) (h4 : (e4.size : Int) ≤ 9223372036854775807) (w : World)
    (S1 : SliceIn w A m c 4 40 (dds l)) (h1 : ∀ d ∈ l, (d.s.size : Int) ≤ 9223372036854775807) (S2 : SliceIn w B m2 c2 4 40 (dds l2)) (h2 : ∀ d ∈ l2, (d.s.size : Int) ≤ 9223372036854775807) :
    Calls Try.prog 6 #[.agg #[.int .i64 n0, .int .i64 k0, .int .i64 x0, .int .i64 y0], .slice A m c, .agg #[.int .i64 e1, .int .i64 e2, .int .i64 e3, .string e4], .slice B m2 c2] w fun e w' => e = .returned (.bool true) ∧ Ext w w' := by
  obtain ⟨R1, hnc1, hrb1, -, -⟩ := S1
  obtain ⟨R2, hnc2, hrb2, -, -⟩ := S2
  have HR1 := hide R1
  have HR2 := hide R2
  have HH1 := hide h1
  have HH2 := hide h2
  have hm1 : m ≤ 4611686018427387904 := by omega
  have hm2 : m2 ≤ 4611686018427387904 := by omega
  clear R1 R2 h1 h2 hrb1 hrb2 hnc1 hnc2
  obtain ⟨W0, hW0⟩ : ∃ W0, W0 = (w.alloc (.cells #[.int .i64 n0, .int .i64 k0, .int .i64 x0, .int .i64 y0] 23)).alloc (.cells #[.int .i64 e1, .int .i64 e2, .int .i64 e3, .string e4] 37) := ⟨_, rfl⟩
  have HW0 := hide hW0
  have hn2 := new2 w #[.int .i64 n0, .int .i64 k0, .int .i64 x0, .int .i64 y0] #[.int .i64 e1, .int .i64 e2, .int .i64 e3, .string e4] 23 37
  rw [← hW0] at hn2
  have HE0 := hide (show Ext w W0 by rw [hW0]; exact ((Ext.refl w).alloc _).alloc _)
  have Q0 := hide (show W0.cell? ⟨w.heap.size, 0, none⟩ = some (.int .i64 n0) from (hn2 0).1)
  have Q1 := hide (show W0.cell? ⟨w.heap.size, 1, none⟩ = some (.int .i64 k0) from (hn2 1).1)
  have Q2 := hide (show W0.cell? ⟨w.heap.size, 2, none⟩ = some (.int .i64 x0) from (hn2 2).1)
  have Q3 := hide (show W0.cell? ⟨w.heap.size, 3, none⟩ = some (.int .i64 y0) from (hn2 3).1)
  have D0 := hide (show W0.cell? ⟨w.heap.size + 1, 0, none⟩ = some (.int .i64 e1) from (hn2 0).2.1)
  have D1 := hide (show W0.cell? ⟨w.heap.size + 1, 1, none⟩ = some (.int .i64 e2) from (hn2 1).2.1)
  have D2 := hide (show W0.cell? ⟨w.heap.size + 1, 2, none⟩ = some (.int .i64 e3) from (hn2 2).2.1)
  have D3 := hide (show W0.cell? ⟨w.heap.size + 1, 3, none⟩ = some (.string e4) from (hn2 3).2.1)
  clear hW0 hn2
  go_enter Try.func6, Try.ntmps6
  go_wp2_with fail
  rw [← unhide HW0]
  refine (kept_ok _).mono ?_
  rintro e w1 ⟨rfl, E1⟩
  have q0 := E1.keep (unhide Q0)
  have q1 := E1.keep (unhide Q1)
  have q2 := E1.keep (unhide Q2)
  have q3 := E1.keep (unhide Q3)
  have HE1 := hide ((unhide HE0).trans E1)
  by_cases hq : qErr n0 k0 x0 y0 = 0
  · obtain ⟨N, K, Wq, Rq, rfl, rfl, rfl, rfl, hq', a1, a2, a3, a4, a5⟩ := qErr_nat hq
    have O := okNew a1 a2 a3 a4 a5
    have CW := hide (fun (W : World) (E : Ext w W) => worked_ok hq' O A m c l W ((unhide HR1).keep E) hm1 (unhide HH1))
    obtain ⟨H1, O1⟩ := Sto.Ok.runs O l
    obtain ⟨σ, hσ⟩ : ∃ σ, σ = (Sto.new N K Wq Rq).run l := ⟨_, rfl⟩
    rw [← hσ] at CW O1
    have HO1 := hide O1
    have HK := hide (fun W (E : Ext w1 W) => show W.cell? ⟨w.heap.size, 0, none⟩ = some (.int .i64 (N : Int)) ∧ W.cell? ⟨w.heap.size, 1, none⟩ = some (.int .i64 (K : Int)) ∧ W.cell? ⟨w.heap.size, 2, none⟩ = some (.int .i64 (Wq : Int)) ∧ W.cell? ⟨w.heap.size, 3, none⟩ = some (.int .i64 (Rq : Int)) from ⟨E.keep q0, E.keep q1, E.keep q2, E.keep q3⟩)
    clear hσ hq hq' a1 a2 a3 a4 a5 O O1
    go_upto_region 3 with fail
    apply share3 (A := fun p1 p2 w' => ∃ g1 g2, Two w.heap.size w' w'.heap.size p1 g1 p2 g2 σ σ ∧ Ext w1 w')
    · intro H
      go_region_held3 (fun W => W.cell? ⟨w.heap.size, 0, none⟩ = some (.int .i64 (N : Int)) ∧ W.cell? ⟨w.heap.size, 1, none⟩ = some (.int .i64 (K : Int)) ∧ W.cell? ⟨w.heap.size, 2, none⟩ = some (.int .i64 (Wq : Int)) ∧ W.cell? ⟨w.heap.size, 3, none⟩ = some (.int .i64 (Rq : Int))) (first | exact unhide HK _ E1b | exact unhide HK _ E1a | exact unhide HK _ (Ext.refl _).drew) (first
        | (go_at_call 12; refine (unhide CW _ ((unhide HE1).trans E1a)).mono ?_; rintro e w3 ⟨⟨pb, gb, vb, rfl, Sb⟩, Eb⟩; have E1b : Ext w1 w3 := E1a.trans Eb)
        | (go_at_call 12; refine (unhide CW _ ((unhide HE1).trans (Ext.refl _).drew)).mono ?_; rintro e w2 ⟨⟨pa, ga, va, rfl, Sa⟩, Ea⟩; have E1a : Ext w1 w2 := Ext.trans (Ext.refl w1).drew Ea))
      all_goals
        have TT := Two.make (Sa.mono (b1 := w.heap.size) (unhide HE1).size) Eb Sb (Nat.le_refl _) ((unhide HE1).trans E1a).size
        first | exact H pa pb w3 ⟨ga, gb, TT, E1b⟩ | exact H pb pa w3 ⟨gb, ga, TT.swap, E1b⟩
    rintro p1 p2 w2 ⟨g1, g2, TT, E2⟩
    have HT2 := hide TT
    have HE2 := hide ((unhide HE1).trans E2)
    have d0 := E2.keep (E1.keep (unhide D0))
    have d1 := E2.keep (E1.keep (unhide D1))
    have d2 := E2.keep (E1.keep (unhide D2))
    have d3 := E2.keep (E1.keep (unhide D3))
    clear TT E2 HK CW q0 q1 q2 q3 E1
    go_wp2_with fail
    refine ((unhide HT2).left (unhide HO1).fine (Nat.le_refl _) e1 e2 e3 e4 h4).mono ?_
    rintro e w3 ⟨rfl, T3, C3, X3, hs3⟩
    have HE3 := hide (X3 w (unhide HE2) (Nat.le_refl _))
    by_cases he : (σ.doS e1 e2 e3 e4).1.err = 0
    · obtain ⟨an, han⟩ : ∃ an, an = (σ.doS e1 e2 e3 e4).1 := ⟨_, rfl⟩
      rw [← han] at he ⊢
      clear han
      obtain ⟨tx, at_, mn, er⟩ := an
      simp only at he
      subst he
      rw [show tellV ⟨tx, at_, mn, 0⟩ = .tuple #[.agg #[.string tx, .int .i64 (at_ : Int), .int .i64 0, .int .i64 (mn : Int)], .int .i64 0] from rfl]
      clear T3 C3 X3
      go_wp2
      go_ret
      exact ⟨rfl, (unhide HE3).alloc _⟩
    · have hz := Sto.doS_err σ e1 e2 e3 e4 he
      have hsame := Sto.doS_same σ e1 e2 e3 e4 he
      rw [hsame] at T3
      obtain ⟨r, hr⟩ : ∃ r, r = (σ.doS e1 e2 e3 e4).1.err := ⟨_, rfl⟩
      rw [← hr] at hz he
      rw [hz, show tellV (Ans.no r) = .tuple #[.agg #[.string ⟨#[]⟩, .int .i64 0, .int .i64 0, .int .i64 0], .int .i64 r] from rfl]
      have hB : (r == 0) = false := by rw [beq_eq_false_iff_ne]; exact he
      have HT3 := hide (T3.keep ((Ext.refl w3).alloc (.cells #[.string ⟨#[]⟩, .int .i64 0, .int .i64 0, .int .i64 0] 33)))
      have HE4 := hide ((unhide HE3).alloc (.cells #[.string ⟨#[]⟩, .int .i64 0, .int .i64 0, .int .i64 0] 33))
      have hst : w3.heap.size ≤ (w3.alloc (.cells #[.string ⟨#[]⟩, .int .i64 0, .int .i64 0, .int .i64 0] 33)).heap.size := by simp
      obtain ⟨H', OO⟩ : ∃ H', Sto.Ok σ H' := ⟨_, unhide HO1⟩
      have HOO := hide OO
      have hst0 := hst
      clear hz hr he T3 C3 X3 hsame OO d0 d1 d2 d3
      go_wp2
      obtain ⟨wz, hwz⟩ : ∃ wz, wz = w3.alloc (.cells #[.string ⟨#[]⟩, .int .i64 0, .int .i64 0, .int .i64 0] 33) := ⟨_, rfl⟩
      rw [← hwz] at HT3 HE4 hst ⊢
      clear hwz hst0
      go_loopw [46] (fun i wr => ∃ x : Nat, x ≤ m2 ∧ i = .int .i64 x ∧ ∃ top σ' H', Hid (Two w.heap.size wr top p1 g1 p2 g2 σ' σ') ∧ Hid (top ≤ wr.heap.size) ∧ Hid (Sto.Ok σ' H') ∧ Hid (Ext w wr)) (fun i _ => m2 - (intOf i).toNat)
      case atStart => exact ⟨0, Nat.zero_le _, rfl, w3.heap.size, σ, H', HT3, hide hst, HOO, HE4⟩
      case round =>
        obtain ⟨x, hx, rfl, top, σ', Hx, HT, HTOP, HO, HE⟩ := hrel
        by_cases hlt : x < m2
        · obtain ⟨b, o, rfl, hb, c1, c2, c3, c4⟩ := ((unhide HR2).keep (unhide HE)).dd hlt
          have hxl : x < l2.length := by rw [(unhide HR2).ddn]; exact hlt
          have hsz := unhide HH2 _ (dg_mem hxl)
          have hxI : (x : Int) < (m2 : Int) := by omega
          generalize (dg l2 x).kind = d1 at *
          generalize (dg l2 x).key = d2 at *
          generalize (dg l2 x).n = d3 at *
          generalize (dg l2 x).s = d4 at *
          obtain ⟨wb, hwb⟩ : ∃ wb, wb = wr.alloc (.cells #[.int .i64 d1, .int .i64 d2, .int .i64 d3, .string d4] 37) := ⟨_, rfl⟩
          have HWB := hide hwb
          have Eb : Ext wr wb := by rw [hwb]; exact (Ext.refl wr).alloc _
          have B0 := hide (show wb.cell? ⟨wr.heap.size, 0, none⟩ = some (.int .i64 d1) by rw [hwb, new_cell]; rfl)
          have B1 := hide (show wb.cell? ⟨wr.heap.size, 1, none⟩ = some (.int .i64 d2) by rw [hwb, new_cell]; rfl)
          have B2 := hide (show wb.cell? ⟨wr.heap.size, 2, none⟩ = some (.int .i64 d3) by rw [hwb, new_cell]; rfl)
          have B3 := hide (show wb.cell? ⟨wr.heap.size, 3, none⟩ = some (.string d4) by rw [hwb, new_cell]; rfl)
          have htop := unhide HTOP
          have CD := hide (((unhide HT).keep Eb).left (unhide HO).fine (Nat.le_trans htop Eb.size) d1 d2 d3 d4 hsz)
          have HEb := hide ((unhide HE).trans Eb)
          have HO2 := hide ((unhide HO).do_ d1 d2 d3 d4)
          have CR := hide (fun (W : World) (top : Nat) (T : Two w.heap.size W top p1 g1 p2 g2 (σ'.doS d1 d2 d3 d4).2 σ') (ht : top ≤ W.heap.size) => T.right (unhide HO).fine ht d1 d2 d3 d4 hsz)
          clear hwb Eb hxl hsz
          go_wp2_with fail
          rw [← unhide HWB]
          refine (unhide CD).mono ?_
          rintro e w5 ⟨rfl, T5, C5, X5, -⟩
          have b0 := C5 ⟨wr.heap.size, 0, none⟩ _ htop (unhide B0)
          have b1 := C5 ⟨wr.heap.size, 1, none⟩ _ htop (unhide B1)
          have b2 := C5 ⟨wr.heap.size, 2, none⟩ _ htop (unhide B2)
          have b3 := C5 ⟨wr.heap.size, 3, none⟩ _ htop (unhide B3)
          have HE5 := hide (X5 w (unhide HEb) (Nat.le_refl _))
          have HT5 := hide T5
          obtain ⟨an, han⟩ : ∃ an, an = (σ'.doS d1 d2 d3 d4).1 := ⟨_, rfl⟩
          rw [← han]
          have HAN := hide han
          clear T5 C5 X5 CD B0 B1 B2 B3 han
          obtain ⟨tx, at_, mn, er⟩ := an
          rw [show tellV ⟨tx, at_, mn, er⟩ = .tuple #[.agg #[.string tx, .int .i64 (at_ : Int), .int .i64 0, .int .i64 (mn : Int)], .int .i64 er] from rfl]
          obtain ⟨wc, hwc⟩ : ∃ wc, wc = w5.alloc (.cells #[.string tx, .int .i64 (at_ : Int), .int .i64 0, .int .i64 (mn : Int)] 33) := ⟨_, rfl⟩
          have HWC := hide hwc
          have Ec : Ext w5 wc := by rw [hwc]; exact (Ext.refl w5).alloc _
          have X0 := hide (show wc.cell? ⟨w5.heap.size, 0, none⟩ = some (.string tx) by rw [hwc, new_cell]; rfl)
          have X1 := hide (show wc.cell? ⟨w5.heap.size, 1, none⟩ = some (.int .i64 (at_ : Int)) by rw [hwc, new_cell]; rfl)
          have X2 := hide (show wc.cell? ⟨w5.heap.size, 2, none⟩ = some (.int .i64 0) by rw [hwc, new_cell]; rfl)
          have X3 := hide (show wc.cell? ⟨w5.heap.size, 3, none⟩ = some (.int .i64 (mn : Int)) by rw [hwc, new_cell]; rfl)
          have b0A := fun o => ((Ext.refl w5).alloc o).keep b0
          have b1A := fun o => ((Ext.refl w5).alloc o).keep b1
          have b2A := fun o => ((Ext.refl w5).alloc o).keep b2
          have b3A := fun o => ((Ext.refl w5).alloc o).keep b3
          have HTc := hide ((unhide HT5).keep Ec)
          have HEc := hide ((unhide HE5).trans Ec)
          have hsc := Ec.size
          clear hwc Ec b0 b1 b2 b3
          go_wp2_with fail
          rw [← unhide HWC]
          refine (unhide CR _ _ (unhide HTc) hsc).mono ?_
          rintro e w6 ⟨rfl, T6, C6, X6, -⟩
          rw [← unhide HAN]
          have y0 := C6 ⟨w5.heap.size, 0, none⟩ _ (Nat.le_refl _) (unhide X0)
          have y1 := C6 ⟨w5.heap.size, 1, none⟩ _ (Nat.le_refl _) (unhide X1)
          have y2 := C6 ⟨w5.heap.size, 2, none⟩ _ (Nat.le_refl _) (unhide X2)
          have y3 := C6 ⟨w5.heap.size, 3, none⟩ _ (Nat.le_refl _) (unhide X3)
          have HE6 := hide ((X6 w (unhide HEc) (Nat.le_refl _)).alloc (.cells #[.string tx, .int .i64 (at_ : Int), .int .i64 0, .int .i64 (mn : Int)] 33))
          have HT6 := hide (T6.keep ((Ext.refl w6).alloc (.cells #[.string tx, .int .i64 (at_ : Int), .int .i64 0, .int .i64 (mn : Int)] 33)))
          rw [show tellV ⟨tx, at_, mn, er⟩ = .tuple #[.agg #[.string tx, .int .i64 (at_ : Int), .int .i64 0, .int .i64 (mn : Int)], .int .i64 er] from rfl]
          have y0A := fun o => ((Ext.refl w6).alloc o).keep y0
          have y1A := fun o => ((Ext.refl w6).alloc o).keep y1
          have y2A := fun o => ((Ext.refl w6).alloc o).keep y2
          have y3A := fun o => ((Ext.refl w6).alloc o).keep y3
          have hne : ∀ w, (binOp .neq 33 (.agg #[.string tx, .int .i64 (at_ : Int), .int .i64 0, .int .i64 (mn : Int)]) (.agg #[.string tx, .int .i64 (at_ : Int), .int .i64 0, .int .i64 (mn : Int)])).run Try.prog w = .ok (.bool false) w := fun w => by
            have := told_neq tx tx at_ at_ mn mn w
            rw [decide_eq_true ⟨rfl, rfl, rfl⟩] at this
            exact this
          have hB2 : (er != er) = false := by simp
          have hs6 : w6.heap.size ≤ (w6.alloc (.cells #[.string tx, .int .i64 (at_ : Int), .int .i64 0, .int .i64 (mn : Int)] 33)).heap.size := by simp
          have HS6 := hide hs6
          clear T6 C6 X6 CR y0 y1 y2 y3 X0 X1 X2 X3 hs6 hsc b0A b1A b2A b3A HAN
          go_wp2
          go_roundw
          case rel => exact ⟨x + 1, by omega, by go_num, _, _, _, HT6, HS6, HO2, HE6⟩
          case measure => simp [intOf]; omega
        · obtain rfl : m2 = x := by omega
          go_wp2
          go_ret
          exact ⟨rfl, unhide HE⟩
  · have CW := hide (fun (W : World) => worked_bad n0 k0 x0 y0 A m c W hq)
    have CQ := hide (fun (W : World) => qchk_ok n0 k0 x0 y0 W)
    have HK := hide (fun W (E : Ext w1 W) => show W.cell? ⟨w.heap.size, 0, none⟩ = some (.int .i64 n0) ∧ W.cell? ⟨w.heap.size, 1, none⟩ = some (.int .i64 k0) ∧ W.cell? ⟨w.heap.size, 2, none⟩ = some (.int .i64 x0) ∧ W.cell? ⟨w.heap.size, 3, none⟩ = some (.int .i64 y0) from ⟨E.keep q0, E.keep q1, E.keep q2, E.keep q3⟩)
    have hB : (qErr n0 k0 x0 y0 != 0) = true := by rw [bne_iff_ne]; exact hq
    generalize qErr n0 k0 x0 y0 = r at *
    clear hq q0 q1 q2 q3 E1
    go_upto_region 3 with fail
    apply share1 (A := fun w' => Ext w1 w')
    · intro H
      go_region_held3 (fun W => W.cell? ⟨w.heap.size, 0, none⟩ = some (.int .i64 n0) ∧ W.cell? ⟨w.heap.size, 1, none⟩ = some (.int .i64 k0) ∧ W.cell? ⟨w.heap.size, 2, none⟩ = some (.int .i64 x0) ∧ W.cell? ⟨w.heap.size, 3, none⟩ = some (.int .i64 y0)) (first | exact unhide HK _ E1b | exact unhide HK _ E1a | exact unhide HK _ (Ext.refl _).drew) (first
        | (go_at_call 12; refine (unhide CW _).mono ?_; rintro e w3 ⟨rfl, Eb⟩; have E1b : Ext w1 w3 := E1a.trans Eb)
        | (go_at_call 12; refine (unhide CW _).mono ?_; rintro e w2 ⟨rfl, Ea⟩; have E1a : Ext w1 w2 := Ext.trans (Ext.refl w1).drew Ea))
      all_goals exact H w3 E1b
    rintro w2 E2
    obtain ⟨q0, q1, q2, q3⟩ := unhide HK _ E2
    have HE2 := hide ((unhide HE1).trans E2)
    clear E2 CW
    go_wp2_with fail
    refine (unhide CQ _).mono ?_
    rintro e w3 ⟨rfl, E3⟩
    go_wp2
    go_ret
    exact ⟨rfl, (unhide HE2).trans E3⟩
end Go.Proofs.Ytfhalkijbenhdaa

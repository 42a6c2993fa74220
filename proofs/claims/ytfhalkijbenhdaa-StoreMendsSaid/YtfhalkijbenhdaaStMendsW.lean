/-
  The walk of the law StoreMends.
-/
import Derived.Test.YtfhalkijbenhdaaSto24
import Derived.Test.YtfhalkijbenhdaaStMends0
import Derived.Test.YtfhalkijbenhdaaLawD
set_option linter.unusedVariables false
set_option linter.unusedSimpArgs false
namespace Go.Proofs.Ytfhalkijbenhdaa
open Go.RowKit Go.BigFrame

theorem tell0 (tx : ByteArray) (a m : Nat) (r : Int) : tellV ⟨tx, a, m, r⟩ = .tuple #[.agg #[.string tx, .int .i64 (a : Int), .int .i64 0, .int .i64 (m : Int)], .int .i64 r] := rfl
set_option maxRecDepth 100000 in
set_option maxHeartbeats 8000000 in
theorem mends_law (n0 k0 x0 y0 : Int) (A : Option Addr) (m c : Nat) (l : List Dd) (key0 : Int) (B : Option Addr) (m3 c3 : Nat) (rot : List Int) (w : World)
    (S1 : SliceIn w A m c 4 40 (dds l)) (h1 : ∀ d ∈ l, (d.s.size : Int) ≤ 9223372036854775807) (S3 : SliceIn w B m3 c3 1 8 (ints rot)) (_h3 : ∀ x ∈ rot, -9223372036854775808 ≤ x ∧ x ≤ 9223372036854775807) :
    Calls Try.prog 8 #[.agg #[.int .i64 n0, .int .i64 k0, .int .i64 x0, .int .i64 y0], .slice A m c, .int .i64 key0, .slice B m3 c3] w fun e w' => e = .returned (.bool true) ∧ Ext w w' := by
  obtain ⟨R1, hnc1, hrb1, -, -⟩ := S1
  obtain ⟨R3, hnc3, hrb3, -, -⟩ := S3
  have HR1 := hide R1
  have HR3 := hide R3
  have HH1 := hide h1
  have hm1 : m ≤ 4611686018427387904 := by omega
  have hm3 : m3 ≤ 4611686018427387904 := by omega
  clear R1 R3 h1 hrb1 hnc1 hrb3 hnc3 _h3
  obtain ⟨W0, hW0⟩ : ∃ W0, W0 = w.alloc (.cells #[.int .i64 n0, .int .i64 k0, .int .i64 x0, .int .i64 y0] 23) := ⟨_, rfl⟩
  have HW0 := hide hW0
  have HE0 := hide (show Ext w W0 by rw [hW0]; exact (Ext.refl w).alloc _)
  have Q0 := hide (show W0.cell? ⟨w.heap.size, 0, none⟩ = some (.int .i64 n0) by rw [hW0, new_cell]; rfl)
  have Q1 := hide (show W0.cell? ⟨w.heap.size, 1, none⟩ = some (.int .i64 k0) by rw [hW0, new_cell]; rfl)
  have Q2 := hide (show W0.cell? ⟨w.heap.size, 2, none⟩ = some (.int .i64 x0) by rw [hW0, new_cell]; rfl)
  have Q3 := hide (show W0.cell? ⟨w.heap.size, 3, none⟩ = some (.int .i64 y0) by rw [hW0, new_cell]; rfl)
  have HQS := hide (show w.heap.size < W0.heap.size by rw [hW0]; simp)
  clear hW0
  go_enter Try.func8, Try.ntmps8
  go_wp2_with fail
  rw [← unhide HW0]
  refine (kept_ok _).mono ?_
  rintro e w1 ⟨rfl, E1⟩
  replace q0 := E1.keep (unhide Q0)
  replace q1 := E1.keep (unhide Q1)
  have q2 := E1.keep (unhide Q2)
  have q3 := E1.keep (unhide Q3)
  have HE1 := hide ((unhide HE0).trans E1)
  have HQ1 := hide (Nat.lt_of_lt_of_le (unhide HQS) E1.size)
  clear E1
  by_cases hq : qErr n0 k0 x0 y0 = 0
  · obtain ⟨N, K, Wq, Rq, rfl, rfl, rfl, rfl, hq', a1, a2, a3, a4, a5⟩ := qErr_nat hq
    have O := okNew a1 a2 a3 a4 a5
    have CW := hide (fun (W : World) (E : Ext w W) => worked_ok hq' O A m c l W ((unhide HR1).keep E) hm1 (unhide HH1))
    obtain ⟨H1, O1⟩ := Sto.Ok.runs O l
    have hsN : ((Sto.new N K Wq Rq).run l).N = N ∧ ((Sto.new N K Wq Rq).run l).K = K := ⟨Sto.run_N _ _, Sto.run_K _ _⟩
    obtain ⟨σ, hσ⟩ : ∃ σ, σ = (Sto.new N K Wq Rq).run l := ⟨_, rfl⟩
    rw [← hσ] at CW O1 hsN
    have HO1 := hide O1
    obtain ⟨hsN, hsK⟩ := hsN
    have hN10 := O1.n10
    have hK1 := O1.k1
    rw [hsN] at hN10
    rw [hsK] at hK1
    have HSN := hide hsN
    have HSK := hide hsK
    clear hσ hq hq' a1 a2 a3 a4 a5 O O1 hsN hsK
    go_wp2_with fail
    refine (unhide CW _ (unhide HE1)).mono ?_
    rintro e w2 ⟨⟨p, g, v, rfl, S2⟩, E2⟩
    have HE2 := hide ((unhide HE1).trans E2)
    have HT2 := hide (Has.start (X := fun x => x = w.heap.size) S2 E2.size (fun x hx => by rw [hx]; exact unhide HQ1))
    obtain ⟨b1, hb1⟩ : ∃ b1, b1 = w1.heap.size := ⟨_, rfl⟩
    rw [← hb1] at HT2 HQ1
    have hwb : w.heap.size ≤ b1 := Nat.le_of_lt (unhide HQ1)
    replace q0 := E2.keep q0
    replace q1 := E2.keep q1
    clear hb1 S2 E2 CW q2 q3
    have CD := hide ((unhide HT2).do_ (unhide HO1).fine 8 key0 0 ByteArray.empty (by decide))
    by_cases he : (σ.doS 8 key0 0 ByteArray.empty).1.err = 0
    · obtain ⟨key, hk3, rfl, hre⟩ := Sto.scrub_told he
      obtain ⟨σ1, T, f1, f2, f3, M, hKU⟩ := Sto.mend_told (unhide HO1) hk3 hre ByteArray.empty
      have hN1 : σ1.N = N := by rw [← unhide HSN, ← Sto.doS_N σ 8 (key : Int) 0 ByteArray.empty, f1]
      have hK1' : σ1.K = K := by rw [← unhide HSK, ← Sto.doS_K σ 8 (key : Int) 0 ByteArray.empty, f1]
      have HM := hide M
      have CD2 := hide (fun (W : World) (X : Nat → Prop) (h : Has b1 W p g σ1 X) => h.do_ (unhide HM).ok.fine 8 (key : Int) 0 ByteArray.empty (by decide))
      have CD3 := hide (fun (W : World) (X : Nat → Prop) (h : Has b1 W p g σ1 X) => h.do_ (unhide HM).ok.fine 3 (key : Int) 0 ByteArray.empty (by decide))
      rw [f1] at CD
      rw [f2] at CD2
      rw [f3] at CD3
      simp only [tell0, show ((0 : Nat) : Int) = 0 from rfl] at CD CD2 CD3
      obtain ⟨mn, hmn⟩ : ∃ mn, mn = σ.readMany key := ⟨_, rfl⟩
      rw [← hmn] at CD
      obtain ⟨tx, htx⟩ : ∃ tx, tx = (H1 T).2 := ⟨_, rfl⟩
      rw [← htx] at CD3
      have HTX := hide htx
      have HN1 := hide hN1
      have HK1 := hide hK1'
      rw [hK1'] at hKU
      clear he hre f1 f2 f3 M hmn htx hN1 hK1'
      go_wp2_with fail
      refine (unhide CD).mono ?_
      rintro e w3 ⟨rfl, T3, C3, X3, -⟩
      have HE3 := hide (X3 w (unhide HE2) hwb)
      replace q0 := C3 _ _ rfl q0
      replace q1 := C3 _ _ rfl q1
      obtain ⟨wa, hwa⟩ : ∃ wa, wa = w3.alloc (.cells #[.string ByteArray.empty, .int .i64 0, .int .i64 0, .int .i64 (mn : Int)] 33) := ⟨_, rfl⟩
      have HWA := hide hwa
      have Ea : Ext w3 wa := by rw [hwa]; exact (Ext.refl w3).alloc _
      have HTa := hide (T3.keep Ea)
      have HEa := hide ((unhide HE3).trans Ea)
      replace q0 := Ea.keep q0
      replace q1 := Ea.keep q1
      clear hwa Ea T3 C3 X3 CD HT2
      go_wp2_with fail
      rw [← unhide HWA]
      refine (unhide CD2 _ _ (unhide HTa)).mono ?_
      rintro e w4 ⟨rfl, T4, C4, X4, -⟩
      replace q0 := C4 _ _ rfl q0
      replace q1 := C4 _ _ rfl q1
      obtain ⟨wb, hwb'⟩ : ∃ wb, wb = w4.alloc (.cells #[.string ByteArray.empty, .int .i64 0, .int .i64 0, .int .i64 0] 33) := ⟨_, rfl⟩
      have HWB := hide hwb'
      have Eb : Ext w4 wb := by rw [hwb']; exact (Ext.refl w4).alloc _
      have HTb := hide ((T4.grow Eb).less (Y := fun x => x = w.heap.size ∨ x = w4.heap.size) (fun x h => by
        rcases h with h | h
        · exact .inl h
        · exact .inr ⟨by omega, by rw [h, hwb']; simp⟩))
      have HEb := hide ((X4 w (unhide HEa) hwb).trans Eb)
      replace q0 := Eb.keep q0
      replace q1 := Eb.keep q1
      have m3' : wb.cell? ⟨w4.heap.size, 3, none⟩ = some (.int .i64 0) := by rw [hwb', new_cell]; rfl
      clear hwb' Eb T4 C4 X4 CD2
      go_wp2_with fail
      rw [← unhide HWB]
      refine (unhide CD3 _ _ (unhide HTb)).mono ?_
      rintro e w5 ⟨rfl, T5, C5, X5, -⟩
      replace q0 := C5 _ _ (.inl rfl) q0
      replace q1 := C5 _ _ (.inl rfl) q1
      have m3'' := C5 _ _ (.inr rfl) m3'
      obtain ⟨wc, hwc⟩ : ∃ wc, wc = w5.alloc (.cells #[.string tx, .int .i64 (T : Int), .int .i64 0, .int .i64 0] 33) := ⟨_, rfl⟩
      have HWC := hide hwc
      have Ec : Ext w5 wc := by rw [hwc]; exact (Ext.refl w5).alloc _
      have HTc := hide ((T5.grow Ec).less (Y := fun x => x = w.heap.size ∨ x = w5.heap.size) (fun x h => by
        rcases h with h | h
        · exact .inl (.inl h)
        · exact .inr ⟨by omega, by rw [h, hwc]; simp⟩))
      have HEc := hide ((X5 w (unhide HEb) hwb).trans Ec)
      replace q0 := Ec.keep q0
      replace q1 := Ec.keep q1
      have m3c := Ec.keep m3''
      have u0 : wc.cell? ⟨w5.heap.size, 0, none⟩ = some (.string tx) := by rw [hwc, new_cell]; rfl
      have u1 : wc.cell? ⟨w5.heap.size, 1, none⟩ = some (.int .i64 (T : Int)) := by rw [hwc, new_cell]; rfl
      have u2 : wc.cell? ⟨w5.heap.size, 2, none⟩ = some (.int .i64 0) := by rw [hwc, new_cell]; rfl
      have u3 : wc.cell? ⟨w5.heap.size, 3, none⟩ = some (.int .i64 0) := by rw [hwc, new_cell]; rfl
      obtain ⟨bw, hbw⟩ : ∃ bw, bw = w5.heap.size := ⟨_, rfl⟩
      obtain ⟨bm, hbm⟩ : ∃ bm, bm = w4.heap.size := ⟨_, rfl⟩
      rw [← hbw] at HTc u0 u1 u2 u3
      rw [← hbm] at m3c
      have HBW := hide hbw
      have HBM := hide hbm
      clear hwc Ec T5 C5 X5 CD3 m3' m3'' hbw hbm
      go_upto_region 11 with fail
      rw [← unhide HWC, ← unhide HBW, ← unhide HBM]
      go_wp2_with fail
      obtain ⟨wd, hwd⟩ : ∃ wd, wd = wc.alloc (.cells #[.int .i64 0, .int .i64 0] 28) := ⟨_, rfl⟩
      have HWD := hide hwd
      have Ed : Ext wc wd := by rw [hwd]; exact (Ext.refl wc).alloc _
      have g0 : wd.cell? ⟨wc.heap.size, 0, none⟩ = some (.int .i64 0) := by rw [hwd, new_cell]; rfl
      have g1 : wd.cell? ⟨wc.heap.size, 1, none⟩ = some (.int .i64 0) := by rw [hwd, new_cell]; rfl
      have CG := hide (good_two 0 0 wc.heap.size 2 wd g0 g1)
      rw [show ([0, 0] : List Int).all (· == 0) = true from rfl] at CG
      rw [← unhide HWD]
      refine (unhide CG).mono ?_
      rintro e w6 ⟨rfl, rfl⟩
      have HTd := hide ((unhide HTc).keep Ed)
      have HEd := hide ((unhide HEc).trans Ed)
      replace q0 := Ed.keep q0
      replace q1 := Ed.keep q1
      replace u0 := Ed.keep u0
      replace u1 := Ed.keep u1
      replace u2 := Ed.keep u2
      replace u3 := Ed.keep u3
      have m3d := Ed.keep m3c
      clear hwd Ed g0 g1 CG m3c HTc HEc HTa HTb HEa HEb HWA HWB HWC HWD HBW HBM HE3 HE1 HE0 Q0 Q1 Q2 Q3 HQS
      go_wp2
      go_loopw [16, 77] (fun u i wr => ∃ x : Nat, x ≤ N ∧ i = .int .i64 x ∧ Hid (wr.ownsRow w6.heap.size 3 1 u (σ1.upsTo x).length (nats .i64 (σ1.upsTo x))) ∧ Ext w6 wr) (fun _ i _ => N - (intOf i).toNat)
      case atStart => exact ⟨0, Nat.zero_le _, rfl, hide (World.ownsRow_nil _ _ _ _), Ext.refl w6⟩
      case round =>
        obtain ⟨x, hx, rfl, HOW, hext⟩ := hrel
        by_cases hlt : x < N
        · have hxI : (x : Int) < (N : Int) := by omega
          have hxN : x < σ1.N := by rw [unhide HN1]; exact hlt
          have CL := hide (((unhide HTd).keep hext).look (unhide HM).ok.fine x key hxN hk3)
          obtain ⟨q, hq⟩ : ∃ q, q = σ1.down x := ⟨_, rfl⟩
          rw [← hq] at CL
          have HQ := hide hq
          clear hq
          have hbd : ((σ1.upsTo x).length + 1) * 8 ≤ 140737488355328 ∧ (σ1.upsTo x).length + 1 ≤ 9223372036854775807 := by have := σ1.upsTo_le x; omega
          go_wp2_with fail
          refine (unhide CL).mono ?_
          rintro e w7 ⟨⟨u', rfl, -⟩, E7⟩
          cases q with
          | true =>
            simp only [Bool.not_true]
            go_wp2
            go_roundw
            case rel => exact ⟨x + 1, by omega, by go_num, hide (by rw [Sto.upsTo_no σ1 (unhide HQ).symm]; exact row_ext (unhide HOW) E7), hext.trans E7⟩
            case measure => simp [intOf]; omega
          | false =>
            simp only [Bool.not_false]
            have hext2 := hext.trans E7
            go_wp2_with (at_builtin; refine stop ?_)
            unfold Stop
            refine wpList_app (w := w7) (cs := #[.int .i64 (x : Int)]) rfl _ _ 50 (by rfl) 3 intU hext2 _ _ _ (by rfl) (row_ext (unhide HOW) E7) 1 1 (by show Value.slice (some ⟨w7.heap.size, 0, none⟩) 1 1 = _; simp) rfl rfl hbd ?_
            intro v' w8 hown' hext' _
            have hown2 : Hid (w8.ownsRow w6.heap.size 3 1 v' (σ1.upsTo (x + 1)).length (nats .i64 (σ1.upsTo (x + 1)))) := hide (by
              rw [Sto.upsTo_yes σ1 (unhide HQ).symm, ← nats_append, List.length_append]
              exact hown')
            clear hown' hext2
            go_wp2
            go_roundw
            case rel => exact ⟨x + 1, by omega, by go_num, hown2, hext'⟩
            case measure => simp [intOf]; omega
        · obtain rfl : N = x := by omega
          have HOW2 := hide (by have := unhide HOW; rw [← unhide HN1, Sto.upsTo_all] at this; exact this)
          obtain ⟨UA, UC, rfl, RU, hUc, -, hUX⟩ := row_of_own (unhide HOW2)
          have hU10 : σ1.ups.length ≤ 10 := by have := σ1.ups_le; rw [unhide HN1] at this; omega
          obtain ⟨U, hU⟩ : ∃ U, U = σ1.ups.length := ⟨_, rfl⟩
          rw [← hU] at RU hU10 hKU ⊢
          have HU := hide hU
          have HUX := hide hUX
          have HT7 := hide ((unhide HTd).grow hext)
          have HUX2 := hide (show ∀ b o, UA = some ⟨b, o, none⟩ → (b = w.heap.size ∨ b = bw) ∨ (w6.heap.size ≤ b ∧ b < wr.heap.size) from fun b o h => .inr (unhide HUX b o h))
          have HRU := hide RU
          have HE7 := hide ((unhide HEd).trans hext)
          replace q1 := hext.keep q1
          replace u0 := hext.keep u0
          replace u1 := hext.keep u1
          replace u2 := hext.keep u2
          replace u3 := hext.keep u3
          obtain ⟨X, hX⟩ : ∃ X : Nat → Prop, X = fun x => (x = w.heap.size ∨ x = bw) ∨ (w6.heap.size ≤ x ∧ x < wr.heap.size) := ⟨_, rfl⟩
          rw [← hX] at HT7
          have HXQ := hide (show X w.heap.size by rw [hX]; exact .inl (.inl rfl))
          have HXW := hide (show X bw by rw [hX]; exact .inl (.inr rfl))
          have HXU := hide (show ∀ b o, UA = some ⟨b, o, none⟩ → X b from fun b o h => by rw [hX]; exact unhide HUX2 b o h)
          have HCL := hide (show wr.cell? ⟨w.heap.size, 1, none⟩ = some (.int .i64 (K : Int)) ∧ wr.cell? ⟨bw, 0, none⟩ = some (.string tx) ∧ wr.cell? ⟨bw, 1, none⟩ = some (.int .i64 (T : Int)) ∧ wr.cell? ⟨bw, 2, none⟩ = some (.int .i64 0) ∧ wr.cell? ⟨bw, 3, none⟩ = some (.int .i64 0) from ⟨q1, u0, u1, u2, u3⟩)
          have hK10 : K ≤ 10 := by omega
          clear hX RU hUX hU HUX HUX2 HOW HOW2 hext HTd HEd q0 q1 u0 u1 u2 u3 m3d hx hlt hUc
          go_wp2
          go_loopw [21, 98] (fun gv jv wz => ∃ x gone : Nat, x ≤ m3 ∧ gone + K ≤ U ∧ jv = .int .i64 x ∧ gv = .int .i64 gone ∧ ∃ τ, Hid (Has b1 wz p g τ X) ∧ Hid (Sto.Mended σ1 τ H1 key T gone) ∧ Hid (Row wz UA U 1 (nats .i64 σ1.ups)) ∧
            Hid (wz.cell? ⟨w.heap.size, 1, none⟩ = some (.int .i64 (K : Int)) ∧ wz.cell? ⟨bw, 0, none⟩ = some (.string tx) ∧ wz.cell? ⟨bw, 1, none⟩ = some (.int .i64 (T : Int)) ∧ wz.cell? ⟨bw, 2, none⟩ = some (.int .i64 0) ∧ wz.cell? ⟨bw, 3, none⟩ = some (.int .i64 0)) ∧ Hid (Ext w wz)) (fun _ jv _ => m3 - (intOf jv).toNat)
          case atStart => exact ⟨0, 0, Nat.zero_le _, by omega, rfl, rfl, σ1, HT7, HM, HRU, HCL, HE7⟩
          case round =>
            obtain ⟨x, gone, hx, hgK, rfl, rfl, τ, HT, HMM, HR, HC, HE⟩ := hrel
            obtain ⟨q1, u0, u1, u2, u3⟩ := unhide HC
            have hsub : IntKind.i64.wrap ((U : Int) - (K : Int)) = (U : Int) - (K : Int) := IntWalk.i64_in _ (by omega)
            have CDG := hide ((unhide HT).do_ (unhide HMM).ok.fine 3 (key : Int) 0 ByteArray.empty (by decide))
            rw [Sto.doS_get hk3, (unhide HMM).get hk3 (by rw [unhide HK1, ← unhide HU]; exact hgK), ← unhide HTX] at CDG
            simp only [tell0, show ((0 : Nat) : Int) = 0 from rfl] at CDG
            by_cases hlt : x < m3
            · obtain ⟨b, o, rfl, hb, cr⟩ := ((unhide HR3).keep (unhide HE)).int hlt
              have hxI : (x : Int) < (m3 : Int) := by omega
              generalize rot.getD x 0 = r at *
              by_cases hg : gone + K = U
              · have hgI : (gone : Int) = (U : Int) - (K : Int) := by omega
                go_wp2_with fail
                refine (unhide CDG).mono ?_
                rintro e w9 ⟨rfl, -, C9, X9, -⟩
                have HE9 := hide (X9 w (unhide HE) hwb)
                replace u0 := C9 _ _ (unhide HXW) u0
                replace u1 := C9 _ _ (unhide HXW) u1
                replace u2 := C9 _ _ (unhide HXW) u2
                replace u3 := C9 _ _ (unhide HXW) u3
                obtain ⟨we, hwe⟩ : ∃ we, we = w9.alloc (.cells #[.string tx, .int .i64 (T : Int), .int .i64 0, .int .i64 0] 33) := ⟨_, rfl⟩
                have HWE := hide hwe
                have Ee : Ext w9 we := by rw [hwe]; exact (Ext.refl w9).alloc _
                have t0 : we.cell? ⟨w9.heap.size, 0, none⟩ = some (.string tx) := by rw [hwe, new_cell]; rfl
                have t1 : we.cell? ⟨w9.heap.size, 1, none⟩ = some (.int .i64 (T : Int)) := by rw [hwe, new_cell]; rfl
                have t2 : we.cell? ⟨w9.heap.size, 2, none⟩ = some (.int .i64 0) := by rw [hwe, new_cell]; rfl
                have t3 : we.cell? ⟨w9.heap.size, 3, none⟩ = some (.int .i64 0) := by rw [hwe, new_cell]; rfl
                replace u0 := Ee.keep u0
                replace u1 := Ee.keep u1
                replace u2 := Ee.keep u2
                replace u3 := Ee.keep u3
                have HEE := hide ((unhide HE9).trans Ee)
                have heq : ∀ w, (binOp .eql 33 (.agg #[.string tx, .int .i64 (T : Int), .int .i64 0, .int .i64 0]) (.agg #[.string tx, .int .i64 (T : Int), .int .i64 0, .int .i64 0])).run Try.prog w = .ok (.bool true) w := fun w => by
                  have := told_eql tx tx T T 0 0 w
                  rw [decide_eq_true ⟨rfl, rfl, rfl⟩] at this
                  exact this
                clear hwe Ee C9 X9
                go_upto_region 37 with fail
                rw [← unhide HWE]
                go_wp2
                go_ret
                exact ⟨rfl, unhide HEE⟩
              · have hgI : ¬ (gone : Int) = (U : Int) - (K : Int) := by omega
                have hU0 : ¬ (U : Int) = 0 := by omega
                have hU0N : ¬ U = 0 := by omega
                have hU0B : ((U : Int) == 0) = false := by rw [beq_eq_false_iff_ne]; exact hU0
                have hgK2 : gone + 1 + K ≤ U := by omega
                obtain ⟨z, hz⟩ : ∃ z : Nat, (z : Int) = r % (U : Int) := ⟨(r % (U : Int)).toNat, by have := Int.emod_nonneg r hU0; omega⟩
                have hzU : z < U := by have := Int.emod_lt_of_pos r (show (0 : Int) < (U : Int) by omega); omega
                have CWI := hide (fun (W : World) => within_any r (U : Int) W (by omega) (by omega))
                rw [← hz] at CWI
                obtain ⟨bu, ou, rfl, hbu, cu⟩ := (unhide HR).nat hzU
                have hmem : σ1.ups.getD z 0 ∈ σ1.ups := getD_mem σ1.ups 0 (by rw [← unhide HU]; exact hzU)
                obtain ⟨an, han⟩ : ∃ an, an = σ1.ups.getD z 0 := ⟨_, rfl⟩
                rw [← han] at cu hmem
                have hanN : an < τ.N := by rw [(unhide HMM).N]; exact Sto.ups_lt hmem
                have CL := hide ((unhide HT).look (unhide HMM).ok.fine an key hanN hk3)
                obtain ⟨qd, hqd⟩ : ∃ qd, qd = !τ.down an := ⟨_, rfl⟩
                rw [← hqd] at CL
                obtain ⟨l1, M2⟩ := (unhide HMM).lose hmem
                have HM2 := hide M2
                have CDL := hide (fun (W : World) (h : Has b1 W p g τ X) => h.do_ (unhide HMM).ok.fine 6 0 (an : Int) ByteArray.empty (by decide))
                rw [l1] at CDL
                rw [show tellV (Ans.no 0) = .tuple #[.agg #[.string ⟨#[]⟩, .int .i64 0, .int .i64 0, .int .i64 0], .int .i64 0] from rfl] at CDL
                obtain ⟨L, hL⟩ : ∃ L, L = (τ.kept an key).length := ⟨_, rfl⟩
                rw [← hL] at CL
                have hzI : (z : Int) < (U : Int) := by omega
                have hL62 : L ≤ 1000000 := by rw [hL]; exact (unhide HMM).ok.fine.len an key hanN hk3
                clear hz han hqd l1 M2 hL CDG hmem hg
                go_wp2_with fail
                refine (unhide CWI _).mono ?_
                rintro e w7 ⟨rfl, rfl⟩
                clear CWI
                go_wp2_with fail
                refine (unhide CL).mono ?_
                rintro e w8 ⟨⟨u', rfl, hown⟩, E8⟩
                obtain ⟨KA, kc, rfl, -, -, -, -⟩ := row_of_own hown
                have HT8 := hide ((unhide HT).keep E8)
                have HR8 := hide ((unhide HR).keep E8)
                have HE8 := hide ((unhide HE).trans E8)
                have HC8 := hide (show w8.cell? ⟨w.heap.size, 1, none⟩ = some (.int .i64 (K : Int)) ∧ w8.cell? ⟨bw, 0, none⟩ = some (.string tx) ∧ w8.cell? ⟨bw, 1, none⟩ = some (.int .i64 (T : Int)) ∧ w8.cell? ⟨bw, 2, none⟩ = some (.int .i64 0) ∧ w8.cell? ⟨bw, 3, none⟩ = some (.int .i64 0) from ⟨E8.keep q1, E8.keep u0, E8.keep u1, E8.keep u2, E8.keep u3⟩)
                clear E8 CL hown q1 u0 u1 u2 u3 cu
                by_cases hL0 : L = 0
                · subst hL0
                  go_wp2
                  go_roundw
                  case rel => exact ⟨x + 1, gone, by omega, hgK, by go_num, rfl, τ, HT8, HMM, HR8, HC8, HE8⟩
                  case measure => simp [intOf]; omega
                · have hLI : ¬ (L : Int) = 0 := by omega
                  have CDL := hide (unhide CDL _ (unhide HT8))
                  go_wp2_with fail
                  refine (unhide CDL).mono ?_
                  rintro e w9 ⟨rfl, T9, C9, X9, s9⟩
                  obtain ⟨we, hwe⟩ : ∃ we, we = w9.alloc (.cells #[.string ⟨#[]⟩, .int .i64 0, .int .i64 0, .int .i64 0] 33) := ⟨_, rfl⟩
                  have HWE := hide hwe
                  have Ee : Ext w9 we := by rw [hwe]; exact (Ext.refl w9).alloc _
                  obtain ⟨q1, u0, u1, u2, u3⟩ := unhide HC8
                  have HC9 := hide (show we.cell? ⟨w.heap.size, 1, none⟩ = some (.int .i64 (K : Int)) ∧ we.cell? ⟨bw, 0, none⟩ = some (.string tx) ∧ we.cell? ⟨bw, 1, none⟩ = some (.int .i64 (T : Int)) ∧ we.cell? ⟨bw, 2, none⟩ = some (.int .i64 0) ∧ we.cell? ⟨bw, 3, none⟩ = some (.int .i64 0) from
                    ⟨Ee.keep (C9 _ _ (unhide HXQ) q1), Ee.keep (C9 _ _ (unhide HXW) u0), Ee.keep (C9 _ _ (unhide HXW) u1), Ee.keep (C9 _ _ (unhide HXW) u2), Ee.keep (C9 _ _ (unhide HXW) u3)⟩)
                  have HR9 := hide (((unhide HR8).kept s9 (unhide HXU) C9 (fun j hj => ⟨_, List.getElem?_eq_getElem (by rw [(unhide HR8).1]; exact hj)⟩)).keep Ee)
                  have HT9 := hide (T9.keep Ee)
                  have HE9 := hide ((X9 w (unhide HE8) hwb).trans Ee)
                  clear hwe Ee T9 C9 X9 s9 q1 u0 u1 u2 u3 CDL
                  go_wp2
                  rw [← unhide HWE]
                  go_roundw
                  case rel => exact ⟨x + 1, gone + 1, by omega, hgK2, by go_num, by go_num, _, HT9, HM2, HR9, HC9, HE9⟩
                  case measure => simp [intOf]; omega
            · obtain rfl : m3 = x := by omega
              go_wp2_with fail
              refine (unhide CDG).mono ?_
              rintro e w9 ⟨rfl, -, C9, X9, -⟩
              have HE9 := hide (X9 w (unhide HE) hwb)
              replace u0 := C9 _ _ (unhide HXW) u0
              replace u1 := C9 _ _ (unhide HXW) u1
              replace u2 := C9 _ _ (unhide HXW) u2
              replace u3 := C9 _ _ (unhide HXW) u3
              obtain ⟨we, hwe⟩ : ∃ we, we = w9.alloc (.cells #[.string tx, .int .i64 (T : Int), .int .i64 0, .int .i64 0] 33) := ⟨_, rfl⟩
              have HWE := hide hwe
              have Ee : Ext w9 we := by rw [hwe]; exact (Ext.refl w9).alloc _
              have t0 : we.cell? ⟨w9.heap.size, 0, none⟩ = some (.string tx) := by rw [hwe, new_cell]; rfl
              have t1 : we.cell? ⟨w9.heap.size, 1, none⟩ = some (.int .i64 (T : Int)) := by rw [hwe, new_cell]; rfl
              have t2 : we.cell? ⟨w9.heap.size, 2, none⟩ = some (.int .i64 0) := by rw [hwe, new_cell]; rfl
              have t3 : we.cell? ⟨w9.heap.size, 3, none⟩ = some (.int .i64 0) := by rw [hwe, new_cell]; rfl
              replace u0 := Ee.keep u0
              replace u1 := Ee.keep u1
              replace u2 := Ee.keep u2
              replace u3 := Ee.keep u3
              have HEE := hide ((unhide HE9).trans Ee)
              have heq : ∀ w, (binOp .eql 33 (.agg #[.string tx, .int .i64 (T : Int), .int .i64 0, .int .i64 0]) (.agg #[.string tx, .int .i64 (T : Int), .int .i64 0, .int .i64 0])).run Try.prog w = .ok (.bool true) w := fun w => by
                have := told_eql tx tx T T 0 0 w
                rw [decide_eq_true ⟨rfl, rfl, rfl⟩] at this
                exact this
              clear hwe Ee C9 X9
              go_upto_region 37 with fail
              rw [← unhide HWE]
              go_wp2
              go_ret
              exact ⟨rfl, unhide HEE⟩
    · obtain ⟨an, han⟩ : ∃ an, an = (σ.doS 8 key0 0 ByteArray.empty).1 := ⟨_, rfl⟩
      rw [← han] at he CD
      clear han
      obtain ⟨tx, at_, mn, er⟩ := an
      rw [tell0] at CD
      have hB : (er != 0) = true := by rw [bne_iff_ne]; exact he
      clear he
      go_wp2_with fail
      refine (unhide CD).mono ?_
      rintro e w3 ⟨rfl, -, -, X3, -⟩
      have HE3 := hide (X3 w (unhide HE2) hwb)
      clear X3
      go_wp2
      go_ret
      exact ⟨rfl, (unhide HE3).alloc _⟩
  · have CW := hide (fun (W : World) => worked_bad n0 k0 x0 y0 A m c W hq)
    have CQ := hide (fun (W : World) => qchk_ok n0 k0 x0 y0 W)
    have hB : (qErr n0 k0 x0 y0 != 0) = true := by rw [bne_iff_ne]; exact hq
    generalize qErr n0 k0 x0 y0 = r at *
    clear hq
    go_wp2_with fail
    refine (unhide CW _).mono ?_
    rintro e w2 ⟨rfl, E2⟩
    replace q0 := E2.keep q0
    replace q1 := E2.keep q1
    have q2 := E2.keep q2
    have q3 := E2.keep q3
    have HE2 := hide ((unhide HE1).trans E2)
    clear E2 CW
    go_wp2_with fail
    refine (unhide CQ _).mono ?_
    rintro e w3 ⟨rfl, E3⟩
    go_wp2
    go_ret
    exact ⟨rfl, (unhide HE2).trans E3⟩
end Go.Proofs.Ytfhalkijbenhdaa

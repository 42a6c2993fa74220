/-
  The walk of the law StoreReads.
-/
import Derived.Test.YtfhalkijbenhdaaSto21
set_option linter.unusedVariables false
set_option linter.unusedSimpArgs false
namespace Go.Proofs.Ytfhalkijbenhdaa
open Go.RowKit Go.BigFrame

set_option maxRecDepth 100000 in
set_option maxHeartbeats 8000000 in
theorem reads_law (n0 k0 x0 y0 : Int) (A : Option Addr) (m c : Nat) (l : List Dd) (key : Int) (text : ByteArray) (B : Option Addr) (m2 c2 : Nat) (l2 : List Dd) (ht : (text.size : Int) ≤ 140737488351232) (w : World)
    (S1 : SliceIn w A m c 4 40 (dds l)) (h1 : ∀ d ∈ l, (d.s.size : Int) ≤ 9223372036854775807) (S2 : SliceIn w B m2 c2 4 40 (dds l2)) (h2 : ∀ d ∈ l2, (d.s.size : Int) ≤ 9223372036854775807) :
    Calls Try.prog 3 #[.agg #[.int .i64 n0, .int .i64 k0, .int .i64 x0, .int .i64 y0], .slice A m c, .int .i64 key, .string text, .slice B m2 c2] w fun e w' => e = .returned (.bool true) ∧ Ext w w' := by
  obtain ⟨R1, hnc1, hrb1, -, -⟩ := S1
  obtain ⟨R2, hnc2, hrb2, -, -⟩ := S2
  have HR1 := hide R1
  have HR2 := hide R2
  have HH1 := hide h1
  have HH2 := hide h2
  have hm1 : m ≤ 4611686018427387904 := by omega
  have hm2 : m2 ≤ 4611686018427387904 := by omega
  clear R1 R2 h1 h2 hrb1 hrb2 hnc1 hnc2
  obtain ⟨W0, hW0⟩ : ∃ W0, W0 = w.alloc (.cells #[.int .i64 n0, .int .i64 k0, .int .i64 x0, .int .i64 y0] 23) := ⟨_, rfl⟩
  have HW0 := hide hW0
  have HE0 := hide (show Ext w W0 by rw [hW0]; exact (Ext.refl w).alloc _)
  have Q0 := hide (show W0.cell? ⟨w.heap.size, 0, none⟩ = some (.int .i64 n0) by rw [hW0, new_cell]; rfl)
  have Q1 := hide (show W0.cell? ⟨w.heap.size, 1, none⟩ = some (.int .i64 k0) by rw [hW0, new_cell]; rfl)
  have Q2 := hide (show W0.cell? ⟨w.heap.size, 2, none⟩ = some (.int .i64 x0) by rw [hW0, new_cell]; rfl)
  have Q3 := hide (show W0.cell? ⟨w.heap.size, 3, none⟩ = some (.int .i64 y0) by rw [hW0, new_cell]; rfl)
  clear hW0
  go_enter Try.func3, Try.ntmps3
  go_wp2_with fail
  rw [← unhide HW0]
  refine (kept_ok _).mono ?_
  rintro e w1 ⟨rfl, E1⟩
  have q0 := E1.keep (unhide Q0)
  have q1 := E1.keep (unhide Q1)
  have q2 := E1.keep (unhide Q2)
  have q3 := E1.keep (unhide Q3)
  have HE1 := hide ((unhide HE0).trans E1)
  clear E1
  by_cases hq : qErr n0 k0 x0 y0 = 0
  · obtain ⟨N, K, Wq, Rq, rfl, rfl, rfl, rfl, hq', a1, a2, a3, a4, a5⟩ := qErr_nat hq
    have O := okNew a1 a2 a3 a4 a5
    have CW := hide (fun (W : World) (E : Ext w W) => worked_ok hq' O A m c l W ((unhide HR1).keep E) hm1 (unhide HH1))
    obtain ⟨H1, O1⟩ := Sto.Ok.runs O l
    obtain ⟨σ, hσ⟩ : ∃ σ, σ = (Sto.new N K Wq Rq).run l := ⟨_, rfl⟩
    rw [← hσ] at CW O1
    clear hσ hq hq' a1 a2 a3 a4 a5 O
    go_wp2_with fail
    refine (unhide CW _ (unhide HE1)).mono ?_
    rintro e w2 ⟨⟨p, g, v, rfl, S2⟩, E2⟩
    have HS2 := hide (S2.mono (unhide HE1).size)
    have HE2 := hide ((unhide HE1).trans E2)
    have CP := hide (fun (W : World) (S : St w.heap.size W p g v σ) => do_ok S O1.fine 1 key 0 text (by omega))
    clear S2 E2 CW q0 q1 q2 q3
    go_wp2_with fail
    refine (unhide CP _ (unhide HS2)).mono ?_
    rintro e w3 ⟨rfl, v3, S3, O3, F3⟩
    have HE3 := hide (O3.ext (unhide HE2) fun q hq => (unhide HS2).foot_lo hq)
    clear CP
    by_cases he : (σ.doS 1 key 0 text).1.err = 0
    · obtain ⟨hik, QS⟩ := Sto.Since.put O1 key 0 text he
      obtain ⟨t1, -, -, t4, t5, -⟩ := Sto.put_told (σ := σ) 1 key 0 text (.inl rfl) he
      obtain ⟨k, rfl⟩ : ∃ k : Nat, key = (k : Int) := ⟨key.toNat, by unfold Sto.isKey at hik; omega⟩
      have hk3 : k < 3 := by unfold Sto.isKey at hik; omega
      obtain ⟨S, hS⟩ : ∃ S, S = (σ.doS 1 (k : Int) 0 text).1.at_ := ⟨_, rfl⟩
      have hans : (σ.doS 1 (k : Int) 0 text).1 = ⟨⟨#[]⟩, S, 0, 0⟩ := by
        rw [hS]
        revert he t4 t5
        cases (σ.doS 1 (k : Int) 0 text).1
        intro he t4 t5
        simp only at he t4 t5 ⊢
        rw [he, t4, t5]; rfl
      rw [← hS] at QS
      rw [hans, show tellV ⟨⟨#[]⟩, S, 0, 0⟩ = .tuple #[.agg #[.string ⟨#[]⟩, .int .i64 (S : Int), .int .i64 0, .int .i64 0], .int .i64 0] from rfl]
      have HIK := hide hik
      obtain ⟨σ1, hσ1⟩ : ∃ σ1, σ1 = (σ.doS 1 (k : Int) 0 text).2 := ⟨_, rfl⟩
      rw [← hσ1] at QS S3
      rw [Int.toNat_natCast] at QS
      have hN1 : σ1.N = σ.N := by rw [hσ1]; exact Sto.doS_N _ _ _ _ _
      obtain ⟨wa, hwa⟩ : ∃ wa, wa = w3.alloc (.cells #[.string ⟨#[]⟩, .int .i64 (S : Int), .int .i64 0, .int .i64 0] 33) := ⟨_, rfl⟩
      have HWA := hide hwa
      have Ea : Ext w3 wa := by rw [hwa]; exact (Ext.refl w3).alloc _
      have HA1 := hide (show wa.cell? ⟨w3.heap.size, 1, none⟩ = some (.int .i64 (S : Int)) by rw [hwa, new_cell]; rfl)
      have HA2 := hide (show wa.cell? ⟨w3.heap.size, 2, none⟩ = some (.int .i64 0) by rw [hwa, new_cell]; rfl)
      have HNA := hide (show ¬ foot p g v3 σ1.N w3.heap.size from fun h => by have := S3.foot_hi h; omega)
      have HSa := hide (S3.keep Ea)
      have HEa := hide ((unhide HE3).trans Ea)
      have HB0 := hide (Became.same (unhide HSa))
      obtain ⟨H1', QS'⟩ : ∃ H', Sto.Since σ1 H' k S text := ⟨_, QS⟩
      have HQ0 := hide QS'
      clear S3 O3 F3 hwa Ea QS QS' hans hS t1 t4 t5 he hσ1 hN1 hik O1
      go_wp2
      rw [← unhide HWA]
      go_loopw [43] (fun i wr => ∃ x : Nat, x ≤ m2 ∧ i = .int .i64 x ∧ ∃ σ' H', Hid (Became w.heap.size wa p g v3 σ1 wr σ') ∧ Hid (σ'.N = σ1.N) ∧ Hid (Sto.Since σ' H' k S text)) (fun i _ => m2 - (intOf i).toNat)
      case atStart => exact ⟨0, Nat.zero_le _, rfl, σ1, H1', HB0, hide rfl, HQ0⟩
      case round =>
        obtain ⟨x, hx, rfl, σ', H', HB, HN, HQ⟩ := hrel
        obtain ⟨v', S', O', F'⟩ := unhide HB
        have HEr := hide (O'.ext (unhide HEa) fun q hq => (unhide HSa).foot_lo hq)
        by_cases hlt : x < m2
        · obtain ⟨b, o, rfl, hb, c1, c2, c3, c4⟩ := ((unhide HR2).keep (unhide HEr)).dd hlt
          have hxl : x < l2.length := by rw [(unhide HR2).ddn]; exact hlt
          have hsz := unhide HH2 _ (dg_mem hxl)
          have hxI : (x : Int) < (m2 : Int) := by omega
          generalize (dg l2 x).kind = d1 at *
          generalize (dg l2 x).key = d2 at *
          generalize (dg l2 x).n = d3 at *
          generalize (dg l2 x).s = d4 at *
          have CC := hide (fun W => calm_ok d1 d2 d3 d4 W)
          have CD := hide (fun (W : World) (S : St w.heap.size W p g v' σ') => do_ok S (unhide HQ).ok.fine d1 d2 d3 d4 hsz)
          obtain ⟨wb, hwb⟩ : ∃ wb, wb = wr.alloc (.cells #[.int .i64 d1, .int .i64 d2, .int .i64 d3, .string d4] 37) := ⟨_, rfl⟩
          have HWB := hide hwb
          have HEb := hide (show Ext wr wb by rw [hwb]; exact (Ext.refl wr).alloc _)
          have B0 := hide (show wb.cell? ⟨wr.heap.size, 0, none⟩ = some (.int .i64 d1) by rw [hwb, new_cell]; rfl)
          have B1 := hide (show wb.cell? ⟨wr.heap.size, 1, none⟩ = some (.int .i64 d2) by rw [hwb, new_cell]; rfl)
          have B2 := hide (show wb.cell? ⟨wr.heap.size, 2, none⟩ = some (.int .i64 d3) by rw [hwb, new_cell]; rfl)
          have B3 := hide (show wb.cell? ⟨wr.heap.size, 3, none⟩ = some (.string d4) by rw [hwb, new_cell]; rfl)
          have HS' := hide S'
          have HO' := hide O'
          have HF' := hide F'
          obtain ⟨q, hq⟩ : ∃ q, q = calmB d1 := ⟨_, rfl⟩
          rw [← hq] at CC
          have HQQ := hide hq
          clear S' O' F' hxl hsz hwb hq
          go_wp2_with fail
          rw [← unhide HWB]
          refine (unhide CC _).mono ?_
          rintro e w5 ⟨rfl, E5⟩
          have HE5 := hide ((unhide HEb).trans E5)
          have b0 := E5.keep (unhide B0)
          have b1 := E5.keep (unhide B1)
          have b2 := E5.keep (unhide B2)
          have b3 := E5.keep (unhide B3)
          have HO5 := hide ((unhide HO').trans (G := fun _ => False) (Only.of_ext (unhide HE5)) fun _ h => h.elim)
          have HS5 := hide ((unhide HS').keep (unhide HE5))
          have HB5 := hide ((unhide HB).ext (unhide HE5))
          clear E5 CC B0 B1 B2 B3
          cases q with
          | false =>
            clear CD
            go_wp2
            go_roundw
            case rel => exact ⟨x + 1, by omega, by go_num, σ', H', HB5, HN, HQ⟩
            case measure => simp [intOf]; omega
          | true =>
            have hcm := of_decide_eq_true (unhide HQQ).symm
            have HQ2 := hide ((unhide HQ).step hk3 d1 d2 d3 d4 hcm.1 hcm.2)
            have HN2 := hide ((Sto.doS_N σ' d1 d2 d3 d4).trans (unhide HN))
            clear hcm
            go_wp2_with fail
            refine (unhide CD _ (unhide HS5)).mono ?_
            rintro e w6 ⟨rfl, B6⟩
            have hF6 : ∀ x, foot p g v' σ1.N x → foot p g v3 σ1.N x ∨ wa.heap.size ≤ x := unhide HF'
            have HB6 := hide (Became.trans_ (unhide HO5) hF6 B6 (unhide HN))
            clear B6 CD hF6
            go_wp2
            go_roundw
            case rel => exact ⟨x + 1, by omega, by go_num, _, _, HB6, HN2, HQ2⟩
            case measure => simp [intOf]; omega
        · obtain rfl : m2 = x := by omega
          have CG := hide (do_ok S' (unhide HQ).ok.fine 3 (k : Int) 0 ⟨#[]⟩ (by decide))
          have HG := hide ((unhide HQ).get (key := (k : Int)) (unhide HIK) 0 ⟨#[]⟩)
          have a1 := O'.keepc (unhide HA1) (unhide HNA)
          have a2 := O'.keepc (unhide HA2) (unhide HNA)
          have hNF' : ¬ foot p g v' σ1.N w3.heap.size := fun h => by
            rcases F' _ h with h | h
            · exact unhide HNA h
            · have := cell_lt (unhide HA1); simp only at this; omega
          have HS' := hide S'
          clear S' O' F'
          go_wp2_with fail
          refine (unhide CG).mono ?_
          rintro e w6 ⟨rfl, v6, S6, O6, F6⟩
          have HE6 := hide (O6.ext (unhide HEr) fun q hq => (unhide HS').foot_lo hq)
          have a1 := O6.keepc a1 (by rw [unhide HN]; exact hNF')
          have a2 := O6.keepc a2 (by rw [unhide HN]; exact hNF')
          clear S6 O6 F6 CG hNF'
          rcases unhide HG with h9 | ⟨g0, g1, g2, g3⟩
          · rw [h9, show tellV (Ans.no 9) = .tuple #[.agg #[.string ⟨#[]⟩, .int .i64 0, .int .i64 0, .int .i64 0], .int .i64 9] from rfl]
            have heq : ∀ w, (binOp .eql 33 (.agg #[.string ⟨#[]⟩, .int .i64 0, .int .i64 0, .int .i64 0]) (.agg #[.string ⟨#[]⟩, .int .i64 0, .int .i64 0, .int .i64 0])).run Try.prog w = .ok (.bool true) w := fun w => by
              have := told_eql ⟨#[]⟩ ⟨#[]⟩ 0 0 0 0 w
              rw [decide_eq_true ⟨rfl, rfl, rfl⟩] at this
              exact this
            clear h9 HG
            go_wp2
            go_ret
            exact ⟨rfl, (unhide HE6).alloc _⟩
          · obtain ⟨an, han⟩ : ∃ an, an = (σ'.doS 3 (k : Int) 0 ⟨#[]⟩).1 := ⟨_, rfl⟩
            rw [← han] at g0 g1 g2 g3 ⊢
            obtain ⟨tx, at_, mn, er⟩ := an
            simp only at g0 g1 g2 g3
            subst g0; subst g1
            rw [show tellV ⟨tx, at_, 0, 0⟩ = .tuple #[.agg #[.string tx, .int .i64 (at_ : Int), .int .i64 0, .int .i64 0], .int .i64 0] from rfl]
            have a1A := fun o => ((Ext.refl w6).alloc o).keep a1
            have a2A := fun o => ((Ext.refl w6).alloc o).keep a2
            clear han HG
            by_cases hat : at_ = S
            · obtain rfl := g3 hat
              subst hat
              clear g2 g3
              go_wp2
              go_ret
              exact ⟨rfl, (unhide HE6).alloc _⟩
            · have CNW := hide (fun W => newr_ok at_ S W)
              rw [show decide (S < at_) = true from decide_eq_true (by omega)] at CNW
              have hB : ¬ (at_ : Int) = (S : Int) := by omega
              clear g2 g3 hat
              go_wp2_with fail
              refine (unhide CNW _).mono ?_
              rintro e w7 ⟨rfl, E7⟩
              go_wp2
              go_ret
              exact ⟨rfl, ((unhide HE6).alloc _).trans E7⟩
    · have hz := Sto.doS_err σ 1 key 0 text he
      obtain ⟨r, hr⟩ : ∃ r, r = (σ.doS 1 key 0 text).1.err := ⟨_, rfl⟩
      rw [← hr] at hz he
      rw [hz, show tellV (Ans.no r) = .tuple #[.agg #[.string ⟨#[]⟩, .int .i64 0, .int .i64 0, .int .i64 0], .int .i64 r] from rfl]
      have hB : (r != 0) = true := by rw [bne_iff_ne]; exact he
      have heq : ∀ w, (binOp .eql 33 (.agg #[.string ⟨#[]⟩, .int .i64 0, .int .i64 0, .int .i64 0]) (.agg #[.string ⟨#[]⟩, .int .i64 0, .int .i64 0, .int .i64 0])).run Try.prog w = .ok (.bool true) w := fun w => by
        have := told_eql ⟨#[]⟩ ⟨#[]⟩ 0 0 0 0 w
        rw [decide_eq_true ⟨rfl, rfl, rfl⟩] at this
        exact this
      clear hz hr he S3 O3 F3
      go_wp2
      go_ret
      exact ⟨rfl, (unhide HE3).alloc _⟩
  · have CW := hide (fun (W : World) => worked_bad n0 k0 x0 y0 A m c W hq)
    have CQ := hide (fun (W : World) => qchk_ok n0 k0 x0 y0 W)
    have hB : (qErr n0 k0 x0 y0 != 0) = true := by rw [bne_iff_ne]; exact hq
    generalize qErr n0 k0 x0 y0 = r at *
    clear hq
    go_wp2_with fail
    refine (unhide CW _).mono ?_
    rintro e w2 ⟨rfl, E2⟩
    have q0 := E2.keep q0
    have q1 := E2.keep q1
    have q2 := E2.keep q2
    have q3 := E2.keep q3
    have HE2 := hide ((unhide HE1).trans E2)
    clear E2 CW
    go_wp2_with fail
    refine (unhide CQ _).mono ?_
    rintro e w3 ⟨rfl, E3⟩
    go_wp2
    go_ret
    exact ⟨rfl, (unhide HE2).trans E3⟩
end Go.Proofs.Ytfhalkijbenhdaa

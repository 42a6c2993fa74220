/-
  The walk of the law StoreOwn.
-/
import Derived.Test.YtfhalkijbenhdaaStOwn0
import Derived.Test.YtfhalkijbenhdaaStMends0
set_option linter.unusedVariables false
set_option linter.unusedSimpArgs false
namespace Go.Proofs.Ytfhalkijbenhdaa
open Go.RowKit Go.BigFrame

set_option maxRecDepth 100000 in
set_option maxHeartbeats 8000000 in
theorem storeown_law (n0 k0 x0 y0 : Int) (A : Option Addr) (m c : Nat) (l : List Dd) (i0 key0 : Int) (w : World)
    (S1 : SliceIn w A m c 4 40 (dds l)) (h1 : ∀ d ∈ l, (d.s.size : Int) ≤ 9223372036854775807) :
    Calls Try.prog 9 #[.agg #[.int .i64 n0, .int .i64 k0, .int .i64 x0, .int .i64 y0], .slice A m c, .int .i64 i0, .int .i64 key0] w fun e w' => e = .returned (.bool true) ∧ Ext w w' := by
  obtain ⟨R1, hnc1, hrb1, -, -⟩ := S1
  have HR1 := hide R1
  have HH1 := hide h1
  have hm1 : m ≤ 4611686018427387904 := by omega
  clear R1 h1 hrb1 hnc1
  obtain ⟨W0, hW0⟩ : ∃ W0, W0 = w.alloc (.cells #[.int .i64 n0, .int .i64 k0, .int .i64 x0, .int .i64 y0] 23) := ⟨_, rfl⟩
  have HW0 := hide hW0
  have HE0 := hide (show Ext w W0 by rw [hW0]; exact (Ext.refl w).alloc _)
  have Q0 := hide (show W0.cell? ⟨w.heap.size, 0, none⟩ = some (.int .i64 n0) by rw [hW0, new_cell]; rfl)
  have Q1 := hide (show W0.cell? ⟨w.heap.size, 1, none⟩ = some (.int .i64 k0) by rw [hW0, new_cell]; rfl)
  have Q2 := hide (show W0.cell? ⟨w.heap.size, 2, none⟩ = some (.int .i64 x0) by rw [hW0, new_cell]; rfl)
  have Q3 := hide (show W0.cell? ⟨w.heap.size, 3, none⟩ = some (.int .i64 y0) by rw [hW0, new_cell]; rfl)
  have HQS := hide (show w.heap.size < W0.heap.size by rw [hW0]; simp)
  clear hW0
  go_enter Try.func9, Try.ntmps9
  go_wp2_with fail
  rw [← unhide HW0]
  refine (kept_ok _).mono ?_
  rintro e w1 ⟨rfl, E1⟩
  replace q0 := E1.keep (unhide Q0)
  replace q1 := E1.keep (unhide Q1)
  have q2 := E1.keep (unhide Q2)
  have q3 := E1.keep (unhide Q3)
  have HE1 := hide ((unhide HE0).trans E1)
  have HQ1 := hide (Nat.lt_of_lt_of_le (unhide HQS) E1.size)
  clear E1
  by_cases hq : qErr n0 k0 x0 y0 = 0
  · obtain ⟨N, K, Wq, Rq, rfl, rfl, rfl, rfl, hq', a1, a2, a3, a4, a5⟩ := qErr_nat hq
    have O := okNew a1 a2 a3 a4 a5
    have CW := hide (fun (W : World) (E : Ext w W) => worked_ok hq' O A m c l W ((unhide HR1).keep E) hm1 (unhide HH1))
    have CQ := hide (fun (W : World) => qerr_ok N K Wq Rq W a1 a2 a3 a4 a5)
    obtain ⟨H1, O1⟩ := Sto.Ok.runs O l
    have hsN : ((Sto.new N K Wq Rq).run l).N = N ∧ ((Sto.new N K Wq Rq).run l).K = K := ⟨Sto.run_N _ _, Sto.run_K _ _⟩
    obtain ⟨σ, hσ⟩ : ∃ σ, σ = (Sto.new N K Wq Rq).run l := ⟨_, rfl⟩
    rw [← hσ] at CW O1 hsN
    have HO1 := hide O1
    obtain ⟨hsN, hsK⟩ := hsN
    have hN10 := O1.n10
    have hK1 := O1.k1
    rw [hsN] at hN10
    rw [hsK] at hK1
    have HSN := hide hsN
    have HSK := hide hsK
    clear hσ hq hq' a1 a2 a3 a4 a5 O O1 hsN hsK
    go_wp2_with fail
    refine (unhide CW _ (unhide HE1)).mono ?_
    rintro e w2 ⟨⟨p, g, v, rfl, S2⟩, E2⟩
    have HE2 := hide ((unhide HE1).trans E2)
    have HT2 := hide (Has.start (X := fun x => x = w.heap.size) S2 E2.size (fun x hx => by rw [hx]; exact unhide HQ1))
    obtain ⟨b1, hb1⟩ : ∃ b1, b1 = w1.heap.size := ⟨_, rfl⟩
    rw [← hb1] at HT2 HQ1
    have hwb : w.heap.size ≤ b1 := Nat.le_of_lt (unhide HQ1)
    replace q0 := E2.keep q0
    replace q1 := E2.keep q1
    replace q2 := E2.keep q2
    replace q3 := E2.keep q3
    clear hb1 S2 E2 CW
    have HC2 := hide (show w2.cell? ⟨w.heap.size, 0, none⟩ = some (.int .i64 (N : Int)) ∧ w2.cell? ⟨w.heap.size, 1, none⟩ = some (.int .i64 (K : Int)) ∧ w2.cell? ⟨w.heap.size, 2, none⟩ = some (.int .i64 (Wq : Int)) ∧ w2.cell? ⟨w.heap.size, 3, none⟩ = some (.int .i64 (Rq : Int)) from ⟨q0, q1, q2, q3⟩)
    clear q0 q1 q2 q3 HE1 HE0 Q0 Q1 Q2 Q3 HQS
    by_cases hn : σ.isNode i0 ∧ Sto.isKey key0
    · obtain ⟨hn1, hn2⟩ := hn
      obtain ⟨i, rfl⟩ : ∃ i : Nat, i0 = (i : Int) := ⟨i0.toNat, by unfold Sto.isNode at hn1; omega⟩
      obtain ⟨key, rfl⟩ : ∃ key : Nat, key0 = (key : Int) := ⟨key0.toNat, by unfold Sto.isKey at hn2; omega⟩
      have hiN : i < σ.N := by unfold Sto.isNode at hn1; omega
      have hk3 : key < 3 := by unfold Sto.isKey at hn2; omega
      have CL := hide (fun (W : World) (X : Nat → Prop) (h : Has b1 W p g σ X) => h.look (unhide HO1).fine i key hiN hk3)
      have hL6 : (σ.kept i key).length ≤ 1000000 := (unhide HO1).fine.len i key hiN hk3
      have HSZ := hide (show ∀ e ∈ σ.kept i key, 5 ≤ e.2.size from fun e he => ((unhide HO1).fine.sz i key e hiN hk3 he).1)
      obtain ⟨l1, hl1⟩ : ∃ l1, l1 = σ.kept i key := ⟨_, rfl⟩
      rw [← hl1] at CL hL6 HSZ
      obtain ⟨L, hL⟩ : ∃ L, L = l1.length := ⟨_, rfl⟩
      rw [← hL] at CL hL6
      obtain ⟨dn, hdn⟩ : ∃ dn, dn = !σ.down i := ⟨_, rfl⟩
      rw [← hdn] at CL
      clear hn1 hn2 hl1 hL hdn hiN
      go_wp2_with fail
      refine (unhide CL _ _ (unhide HT2)).mono ?_
      rintro e w3 ⟨⟨u, rfl, hown⟩, E3⟩
      have HOW := hide hown
      obtain ⟨A3, c3, rfl, R3, -, -, hX3⟩ := row_of_own hown
      have hA3 : A3 = none → L = 0 ∧ c3 = 0 := fun hA => by
        subst hA
        rcases hown.2 with ⟨h6, h7⟩ | ⟨q, cap, cur, h6, -⟩
        · injection h6 with _ _ h6
          exact ⟨h7, h6⟩
        · injection h6 with h6; cases h6
      have CC := hide (clone_kept A3 L c3 (kps l1) w3 R3 (kps_one _) (by omega) hA3)
      have HG3 := hide ((unhide HT2).grow E3)
      have HE3 := hide ((unhide HE2).trans E3)
      have HE23 := hide E3
      clear R3 hA3 E3 hown
      go_wp2_with fail
      refine (unhide CC).mono ?_
      rintro e w4 ⟨⟨u4, rfl, hown4⟩, E4⟩
      have HOW4 := hide hown4
      obtain ⟨A4, c4, rfl, R4, -, -, hX4⟩ := row_of_own hown4
      have HSP := hide (spoilk_ok w2.heap.size (.slice A3 L c3) L (kps l1) w4 (row_ext (unhide HOW) E4))
      have HG4 := hide ((unhide HG3).keep E4)
      have HE4 := hide ((unhide HE3).trans E4)
      have HE24 := hide ((unhide HE23).trans E4)
      have hown3 : ∀ q, (Value.slice A3 L c3).ownBlock = some q → w2.heap.size ≤ q ∧ q < w3.heap.size := fun q hq => (unhide HOW).lt q hq
      have HOX := hide hown3
      have HR4 := hide R4
      have HX4 := hide hX4
      clear CC hX3 E4 hown4 R4 hX4 hown3
      go_wp2_with fail
      refine (unhide HSP).mono ?_
      rintro e w5 ⟨⟨r5, rfl⟩, O5⟩
      have O5' : Only (fun q => w2.heap.size ≤ q ∧ q < w3.heap.size) w4 w5 := O5.mono fun q hq => .inl (unhide HOX q hq)
      have HG5 := hide ((unhide HG4).other O5' (fun x hx => .inr hx))
      have HR5 := hide (Row.kept (X := fun b => w3.heap.size ≤ b ∧ b < w4.heap.size) (unhide HR4) O5'.size (unhide HX4) (fun a u ha hc => O5'.keepc hc fun h => by have := ha.1; have := h.2; omega) (fun j hj => ⟨_, List.getElem?_eq_getElem (by rw [(unhide HR4).1]; exact hj)⟩))
      have HE5 := hide (O5'.ext (unhide HE4) (fun q hq => Nat.le_trans (unhide HE2).size hq.1))
      have HC5 := hide (show ∀ j u, w2.cell? ⟨w.heap.size, j, none⟩ = some u → w5.cell? ⟨w.heap.size, j, none⟩ = some u from fun j u hc => O5'.keepc ((unhide HE24).keep hc) fun h => by
        have hq : w.heap.size < w2.heap.size := (unhide HT2).lt rfl
        have h := h.1
        have h : w2.heap.size ≤ w.heap.size := h
        omega)
      clear O5 O5' HSP HOX HR4 HX4 HG4 HOW HOW4 HG3 HE24 HE23
      go_wp2_with fail
      refine (unhide CL _ _ (unhide HG5)).mono ?_
      rintro e w6 ⟨⟨u6, rfl, hown6⟩, E6⟩
      obtain ⟨A6, c6, rfl, R6, -, -, -⟩ := row_of_own hown6
      obtain ⟨q0, q1, q2, q3⟩ := unhide HC2
      have q0 := E6.keep (unhide HC5 _ _ q0)
      have q1 := E6.keep (unhide HC5 _ _ q1)
      have q2 := E6.keep (unhide HC5 _ _ q2)
      have q3 := E6.keep (unhide HC5 _ _ q3)
      have HQ := hide (fun W (E : Ext w6 W) => show W.cell? ⟨w.heap.size, 0, none⟩ = some (.int .i64 (N : Int)) ∧ W.cell? ⟨w.heap.size, 1, none⟩ = some (.int .i64 (K : Int)) ∧ W.cell? ⟨w.heap.size, 2, none⟩ = some (.int .i64 (Wq : Int)) ∧ W.cell? ⟨w.heap.size, 3, none⟩ = some (.int .i64 (Rq : Int)) from ⟨E.keep q0, E.keep q1, E.keep q2, E.keep q3⟩)
      have CE := hide (fun (W : World) (E : Ext w6 W) => equalk_ok A4 A6 L c4 c6 l1 W (((unhide HR5).keep E6).keep E) (R6.keep E) (by omega))
      have CK := hide (fun (W : World) (E : Ext w6 W) => conk_ok A6 L c6 l1 W (R6.keep E) (by omega) (unhide HSZ))
      have HE6 := hide ((unhide HE5).trans E6)
      have hdd : (dn == dn) = true := by simp
      clear E6 hown6 R6 q0 q1 q2 q3 HR5 HC5 HC2 HG5 CL
      go_wp2_with fail
      refine (unhide CE _ (Ext.refl _)).mono ?_
      rintro e w7 ⟨rfl, E7⟩
      have HE7 := hide E7
      clear E7
      go_wp2_with fail
      refine (unhide CK _ (unhide HE7)).mono ?_
      rintro e w8 ⟨rfl, E8⟩
      have HE8 := hide ((unhide HE7).trans E8)
      obtain ⟨q0, q1, q2, q3⟩ := unhide HQ _ (unhide HE8)
      clear E8
      go_wp2_with fail
      refine (unhide CQ _).mono ?_
      rintro e w9 ⟨rfl, E9⟩
      have HE9 := hide (((unhide HE6).trans (unhide HE8)).trans E9)
      clear E9
      go_wp2
      go_ret
      exact ⟨rfl, unhide HE9⟩
    · have CL := hide (fun (W : World) (X : Nat → Prop) (h : Has b1 W p g σ X) => h.look_bad i0 key0 hn)
      have CC := hide (fun (W : World) => clone_kept none 0 0 [] W Row.none_ (by simp) (by omega) (fun _ => ⟨rfl, rfl⟩))
      have CK := hide (fun (W : World) => conk_ok none 0 0 [] W Row.none_ (by omega) (by simp))
      clear hn
      go_wp2_with fail
      refine (unhide CL _ _ (unhide HT2)).mono ?_
      rintro e w3 ⟨rfl, E3⟩
      have HE23 := hide E3
      have HG3 := hide ((unhide HT2).keep E3)
      clear E3
      go_wp2_with fail
      refine (unhide CC _).mono ?_
      rintro e w4 ⟨⟨u4, rfl, hown4⟩, E4⟩
      obtain ⟨A4, c4, rfl, R4, -, -, -⟩ := row_of_own hown4
      have HE24 := hide ((unhide HE23).trans E4)
      have HG4 := hide ((unhide HG3).keep E4)
      have HR4 := hide R4
      clear E4 hown4 R4
      go_wp2_with fail
      refine (spoilk_nil _).mono ?_
      rintro e w5 ⟨⟨r5, rfl⟩, E5⟩
      have HE25 := hide ((unhide HE24).trans E5)
      have HG5 := hide ((unhide HG4).keep E5)
      have CE := hide (fun (W : World) (E : Ext w5 W) => equalk_ok A4 none 0 c4 0 [] W (((unhide HR4).keep E5).keep E) Row.none_ (by omega))
      clear E5
      go_wp2_with fail
      refine (unhide CL _ _ (unhide HG5)).mono ?_
      rintro e w6 ⟨rfl, E6⟩
      have HE56 := hide E6
      have HE6 := hide ((unhide HE2).trans ((unhide HE25).trans E6))
      have HQ := hide (fun W (E : Ext w6 W) => show W.cell? ⟨w.heap.size, 0, none⟩ = some (.int .i64 (N : Int)) ∧ W.cell? ⟨w.heap.size, 1, none⟩ = some (.int .i64 (K : Int)) ∧ W.cell? ⟨w.heap.size, 2, none⟩ = some (.int .i64 (Wq : Int)) ∧ W.cell? ⟨w.heap.size, 3, none⟩ = some (.int .i64 (Rq : Int)) from
        have G := (unhide HE25).trans (E6.trans E)
        ⟨G.keep (unhide HC2).1, G.keep (unhide HC2).2.1, G.keep (unhide HC2).2.2.1, G.keep (unhide HC2).2.2.2⟩)
      clear E6
      go_wp2_with fail
      refine (unhide CE _ (unhide HE56)).mono ?_
      rintro e w7 ⟨rfl, E7⟩
      have HE7 := hide E7
      clear E7
      go_wp2_with fail
      refine (unhide CK _).mono ?_
      rintro e w8 ⟨rfl, E8⟩
      have HE8 := hide ((unhide HE7).trans E8)
      obtain ⟨q0, q1, q2, q3⟩ := unhide HQ _ (unhide HE8)
      clear E8
      go_wp2_with fail
      refine (unhide CQ _).mono ?_
      rintro e w9 ⟨rfl, E9⟩
      have HE9 := hide (((unhide HE6).trans (unhide HE8)).trans E9)
      clear E9
      go_wp2
      go_ret
      exact ⟨rfl, unhide HE9⟩
  · have CW := hide (fun (W : World) => worked_bad n0 k0 x0 y0 A m c W hq)
    have CQ := hide (fun (W : World) => qchk_ok n0 k0 x0 y0 W)
    have hB : (qErr n0 k0 x0 y0 != 0) = true := by rw [bne_iff_ne]; exact hq
    generalize qErr n0 k0 x0 y0 = r at *
    clear hq
    go_wp2_with fail
    refine (unhide CW _).mono ?_
    rintro e w2 ⟨rfl, E2⟩
    replace q0 := E2.keep q0
    replace q1 := E2.keep q1
    have q2 := E2.keep q2
    have q3 := E2.keep q3
    have HE2 := hide ((unhide HE1).trans E2)
    clear E2 CW
    go_wp2_with fail
    refine (unhide CQ _).mono ?_
    rintro e w3 ⟨rfl, E3⟩
    go_wp2
    go_ret
    exact ⟨rfl, (unhide HE2).trans E3⟩
end Go.Proofs.Ytfhalkijbenhdaa

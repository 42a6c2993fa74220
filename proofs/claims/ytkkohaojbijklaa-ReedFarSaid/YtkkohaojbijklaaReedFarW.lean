/-
  The walk of the law ReedFar.
-/
import Derived.Test.YtkkohaojbijklaaReed6
import Derived.BigRegion
import Derived.Deep.Cut
import Derived.BigQuiet
set_option linter.unusedVariables false
set_option linter.unusedSimpArgs false
namespace Go.Proofs.Ytkkohaojbijklaa
open Go.RowKit Go.BigFrame

set_option maxRecDepth 100000 in
set_option maxHeartbeats 4000000 in
theorem far_law (A : Option Addr) (n c : Nat) (a : List Nat) (B : Option Addr) (k d : Nat) (b : List Nat) (N : Int) (w : World) (SA : SliceIn w A n c 1 1 (nats .u8 a)) (ha : ∀ x ∈ a, x < 256)
    (SB : SliceIn w B k d 1 1 (nats .u8 b)) (hb : ∀ x ∈ b, x < 256) :
    Calls Try.prog 3 #[.slice A n c, .slice B k d, .int .i64 N] w fun e w' => e = .returned (.bool true) ∧ Ext w w' := by
  have hBa := Wm.B256.of ha
  have hBb := Wm.B256.of hb
  have HA := hide SA.1
  have HB := hide SB.1
  have hla := SA.1.numN
  have hlb := SB.1.numN
  have hn : (n : Int) ≤ 9223372036854775807 := by have := SA.2.1; have := SA.2.2.2.1; omega
  have hk : (k : Int) ≤ 9223372036854775807 := by have := SB.2.1; have := SB.2.2.2.1; omega
  clear SA SB ha hb
  have CA := hide (fun (wz : World) (E : Ext w wz) => Put_any A n c N a wz ((unhide HA).keep E) hBa)
  have CB := hide (fun (wz : World) (E : Ext w wz) => Put_any B k d N b wz ((unhide HB).keep E) hBb)
  have CE := hide (fun (wz : World) (E : Ext w wz) => equal_u8 A B n k c d a b wz ((unhide HA).keep E) ((unhide HB).keep E) hn hk)
  have HLA := hide hla
  have HLB := hide hlb
  have HBA := hide hBa
  have HBB := hide hBb
  clear hla hlb hBa hBb hn hk
  go_enter Try.func3, Try.ntmps3
  go_wp2_with fail
  refine (rows_any w).mono ?_
  rintro e w1 ⟨rfl, E1⟩
  go_wp2_with fail
  refine (unhide CA _ E1).mono ?_
  rintro e w2 ⟨ho, E2⟩
  obtain ⟨v1, q1, rfl, hq1, hv1, ho1⟩ := ho.halves
  have E2 := E1.trans E2
  have HO1 := hide ho1
  clear ho hq1 hv1 ho1 E1
  go_wp2_with fail
  refine (unhide CB _ E2).mono ?_
  rintro e w3 ⟨ho, E3⟩
  obtain ⟨v2, q2, rfl, hq2, hv2, ho2⟩ := ho.halves
  have HE3 := hide (E2.trans E3)
  have HE23 := hide E3
  have HO2 := hide ho2
  clear ho hq2 hv2 ho2 E2 E3
  by_cases h1 : q1 = 0
  · by_cases h2 : q2 = 0
    · subst h1
      subst h2
      obtain ⟨m, rfl, hn1, hnm, hm, M1⟩ := unhide HO1 rfl
      obtain ⟨m', hm', hk1, hkm, -, M2⟩ := unhide HO2 rfl
      obtain rfl : m = m' := by omega
      obtain ⟨A1, c1, rfl, R1, hb1, hb2, -⟩ := M1.open_
      obtain ⟨A2, c2, rfl, R2, hb3, hb4, -⟩ := M2.open_
      have HR1 := hide (R1.keep (unhide HE23))
      have HR2 := hide R2
      clear HO1 HO2 M1 M2 R1 R2 hm' HE23
      by_cases hnk : n = k
      · subst hnk
        by_cases hab : a = b
        · have CE := unhide CE
          rw [decide_eq_true hab] at CE
          have CE := hide CE
          clear hab
          go_wp2_with fail
          refine (unhide CE _ (unhide HE3)).mono ?_
          rintro e w4 ⟨rfl, nk, rfl⟩
          go_wp2
          go_ret
          exact ⟨rfl, (unhide HE3).drewN _⟩
        · have CE := unhide CE
          rw [decide_eq_false hab] at CE
          have CE := hide CE
          have HFAR := hide (Wm.far (unhide HBA) (unhide HBB) (n := m) (by omega) (by rw [unhide HLA]; exact hnm) (by rw [unhide HLA, unhide HLB]) hab)
          rw [unhide HLA] at HFAR
          clear hab
          generalize Wm.putL a m = x at *
          generalize Wm.putL b m = y at *
          go_wp2_with fail
          refine (unhide CE _ (unhide HE3)).mono ?_
          rintro e w4 ⟨rfl, nk, rfl⟩
          have HE4 := hide ((unhide HE3).drewN nk)
          have HR1 := hide ((unhide HR1).drewN nk)
          have HR2 := hide ((unhide HR2).drewN nk)
          generalize w3.drewN nk = w4 at *
          clear HE3 CE
          go_wp2
          go_loopw [11, 12, 50] (fun g u i wz => ∃ t : Nat, t ≤ m ∧ i = .int .i64 t ∧ g = .int .i64 (Wm.cnt (fun i => decide (x.getD i 0 ≠ y.getD i 0)) t) ∧ Ext w4 wz) (fun _ _ i _ => m - (intOf i).toNat)
          case atStart => exact ⟨0, Nat.zero_le _, rfl, rfl, Ext.refl w4⟩
          case round =>
            obtain ⟨t, ht, rfl, rfl, hext⟩ := hrel
            obtain ⟨g, hg⟩ : ∃ g, g = Wm.cnt (fun i => decide (x.getD i 0 ≠ y.getD i 0)) t := ⟨_, rfl⟩
            have hgx := Wm.cnt_le (fun i => decide (x.getD i 0 ≠ y.getD i 0)) t
            rw [← hg] at hgx ⊢
            have HG := hide hg
            have HX := hide hext
            clear hg
            by_cases hlt : t < m
            · obtain ⟨b1, o1, rfl, hbl1, hc1⟩ := ((unhide HR1).keep hext).nat hlt
              obtain ⟨b2, o2, rfl, hbl2, hc2⟩ := ((unhide HR2).keep hext).nat hlt
              clear hext
              by_cases hxy : x.getD t 0 = y.getD t 0
              · have HC := hide (show Wm.cnt (fun i => decide (x.getD i 0 ≠ y.getD i 0)) (t + 1) = g by
                  simp only [Wm.cnt, ← unhide HG]
                  rw [decide_eq_false (fun h => h hxy)]
                  rfl)
                rw [hxy] at hc1
                clear hxy
                generalize y.getD t 0 = z at *
                go_upto_region 11 with fail
                go_quiet (fail)
                go_wp2
                go_roundw
                case rel =>
                  have HX2 := unhide HX
                  refine ⟨t + 1, by omega, num_eqR (by omega), ?_, (by repeat (first | exact HX2 | refine Ext.alloc ?_ _ | refine Ext.drew ?_ | refine Ext.drewN ?_ _ | (refine Ext.trans ?_ (plus_ext _ _)) | (refine Ext.setCell ?_ (by have := Ext.size HX2; simp; omega) _)))⟩
                  rw [unhide HC]
                case measure => simp [intOf]; omega
              · have hne : ((x.getD t 0 : Int) != (y.getD t 0 : Int)) = true := by rw [bne_iff_ne]; omega
                have HC := hide (show Wm.cnt (fun i => decide (x.getD i 0 ≠ y.getD i 0)) (t + 1) = g + 1 by
                  simp only [Wm.cnt, ← unhide HG]
                  rw [decide_eq_true hxy]
                  rfl)
                clear hxy
                generalize x.getD t 0 = z1 at *
                generalize y.getD t 0 = z2 at *
                go_upto_region 11 with fail
                go_quiet (fail)
                go_wp2
                go_roundw
                case rel =>
                  have HX2 := unhide HX
                  refine ⟨t + 1, by omega, num_eqR (by omega), ?_, (by repeat (first | exact HX2 | refine Ext.alloc ?_ _ | refine Ext.drew ?_ | refine Ext.drewN ?_ _ | (refine Ext.trans ?_ (plus_ext _ _)) | (refine Ext.setCell ?_ (by have := Ext.size HX2; simp; omega) _)))⟩
                  rw [unhide HC]
                  exact num_eqR (by omega)
                case measure => simp [intOf]; omega
            · obtain rfl : t = m := by omega
              have hfar := unhide HFAR
              rw [← unhide HG] at hfar
              have HES := hide ((unhide HE4).trans hext)
              go_wp2
              go_ret
              exact ⟨ret_boolv (decide_eq_true (by omega)), unhide HES⟩
      · have hnkB : ((n : Int) != (k : Int)) = true := by rw [bne_iff_ne]; omega
        go_wp2
        go_ret
        exact ⟨rfl, unhide HE3⟩
    · subst h1
      have hne : (q2 != 0) = true := by rw [bne_iff_ne]; exact h2
      clear HO1 HO2 h2
      go_wp2
      go_ret
      exact ⟨rfl, unhide HE3⟩
  · have hne : (q1 != 0) = true := by rw [bne_iff_ne]; exact h1
    clear HO1 HO2 h1
    go_wp2
    go_ret
    exact ⟨rfl, unhide HE3⟩
end Go.Proofs.Ytkkohaojbijklaa

/-
  The law PolyDivides returns true: the walk.
-/
import Derived.Test.YtkfdimofkkckeaaPoly7
import Derived.Test.YtkfdimofkkckeaaZp3
set_option linter.unusedVariables false
set_option linter.unusedSimpArgs false
namespace Go.Proofs.Ytkfdimofkkckeaa
open Go.RowKit Go.BigFrame

set_option maxRecDepth 100000 in
set_option maxHeartbeats 4000000 in
theorem divides_law (a : Int) (A1 : Option Addr) (n1 c1 : Nat) (l1 : List Int) (A2 : Option Addr) (n2 c2 : Nat) (l2 : List Int) (A3 : Option Addr) (n3 c3 : Nat) (l3 : List Int) (w : World)
    (S1 : SliceIn w A1 n1 c1 1 8 (ints l1)) (_ : ∀ x ∈ l1, -9223372036854775808 ≤ x ∧ x ≤ 9223372036854775807) (S2 : SliceIn w A2 n2 c2 1 8 (ints l2)) (_ : ∀ x ∈ l2, -9223372036854775808 ≤ x ∧ x ≤ 9223372036854775807)
    (S3 : SliceIn w A3 n3 c3 1 8 (ints l3)) (_ : ∀ x ∈ l3, -9223372036854775808 ≤ x ∧ x ≤ 9223372036854775807) :
    Calls Try.prog 5 #[.int .i64 a, .slice A1 n1 c1, .slice A2 n2 c2, .slice A3 n3 c3] w fun e w' => e = .returned (.bool true) ∧ Ext w w' := by
  have C0 := hide (polys_any w)
  have CF := hide (fun w : World => fieldOf_any a w)
  have CO1 := hide (fun (P : Wm.Pr) (h9 : P.p ≤ 997) (m : Nat) (hm : m ≤ 40) (W : World) (E : Ext w W) => polyOf_ok P h9 A1 n1 c1 l1 m W (S1.1.keep E) S1.2.1 (by have := S1.2.2.2.1; omega) S1.2.2.2.2 hm)
  have CO2 := hide (fun (P : Wm.Pr) (h9 : P.p ≤ 997) (m : Nat) (hm : m ≤ 40) (W : World) (E : Ext w W) => polyOf_ok P h9 A2 n2 c2 l2 m W (S2.1.keep E) S2.2.1 (by have := S2.2.2.2.1; omega) S2.2.2.2.2 hm)
  have CO3 := hide (fun (P : Wm.Pr) (h9 : P.p ≤ 997) (m : Nat) (hm : m ≤ 40) (W : World) (E : Ext w W) => polyOf_ok P h9 A3 n3 c3 l3 m W (S3.1.keep E) S3.2.1 (by have := S3.2.2.2.1; omega) S3.2.2.2.2 hm)
  clear S1 S2 S3
  go_enter Try.func5, Try.ntmps5
  go_wp2_with fail
  refine (unhide C0).mono ?_
  rintro e w1 ⟨rfl, Fw1⟩
  go_wp2_with fail
  refine (unhide CF _).mono ?_
  rintro e w2 ⟨⟨P, h9, rfl⟩, k2, rfl⟩

  go_wp2_with fail
  refine (unhide CO1 P h9 20 (by omega) _ (by repeat (first | exact Ext.refl _ | assumption | refine Ext.alloc ?_ _ | refine Ext.drew ?_ | refine Ext.drewN ?_ _ | refine Ext.trans ?_ ‹Ext _ _›))).mono ?_
  rintro e w3 ⟨⟨vN, f, rfl, hN, lf, MN⟩, EN⟩
  have Fw3 : Ext w1 w3 := Ext.trans (by repeat (first | exact Ext.refl _ | assumption | refine Ext.alloc ?_ _ | refine Ext.drew ?_ | refine Ext.drewN ?_ _ | refine Ext.trans ?_ ‹Ext _ _›)) EN
  obtain ⟨Af, cf, rfl, Pf⟩ := MN.pv
  have BPf := MN.blk
  have Hf := hide hN
  clear MN EN hN
  go_wp2_with fail
  refine (unhide CO2 P h9 20 (by omega) _ (by repeat (first | exact Ext.refl _ | assumption | refine Ext.alloc ?_ _ | refine Ext.drew ?_ | refine Ext.drewN ?_ _ | refine Ext.trans ?_ ‹Ext _ _›))).mono ?_
  rintro e w4 ⟨⟨vN, g, rfl, hN, lg, MN⟩, EN⟩
  have Fw4 : Ext w3 w4 := Ext.trans (by repeat (first | exact Ext.refl _ | assumption | refine Ext.alloc ?_ _ | refine Ext.drew ?_ | refine Ext.drewN ?_ _ | refine Ext.trans ?_ ‹Ext _ _›)) EN
  obtain ⟨Ag, cg, rfl, Pg⟩ := MN.pv
  have BPg := MN.blk
  have Hg := hide hN
  clear MN EN hN
  by_cases hg0 : g.length = 0
  · have CZ := hide (fun (W : World) (E : Ext w4 W) => Div_zero P h9 Af Ag f.length cf cg f g W ((Pf.keep (show Ext w3 w4 from (by repeat (first | exact Ext.refl _ | assumption | refine Ext.alloc ?_ _ | refine Ext.drew ?_ | refine Ext.drewN ?_ _ | refine Ext.trans ?_ ‹Ext _ _›)))).keep E) (by have := Pg.keep E; rwa [hg0] at this) (unhide Hf) (by omega) (unhide Hg))
    rw [hg0]
    clear CO1 CO2 CO3
    go_wp2_with fail
    refine (unhide CZ _ (by repeat (first | exact Ext.refl _ | assumption | refine Ext.alloc ?_ _ | refine Ext.drew ?_ | refine Ext.drewN ?_ _ | refine Ext.trans ?_ ‹Ext _ _›))).mono ?_
    rintro e w5 ⟨rfl, EN⟩
    have F5 : Ext w4 w5 := Ext.trans (by repeat (first | exact Ext.refl _ | assumption | refine Ext.alloc ?_ _ | refine Ext.drew ?_ | refine Ext.drewN ?_ _ | refine Ext.trans ?_ ‹Ext _ _›)) EN
    clear EN
    go_wp2
    go_ret
    exact ⟨rfl, (by repeat (first | exact Ext.refl _ | assumption | refine Ext.alloc ?_ _ | refine Ext.drew ?_ | refine Ext.drewN ?_ _ | refine Ext.trans ?_ ‹Ext _ _›))⟩
  · have CD := hide (fun (W : World) (E : Ext w4 W) => Div_ok P h9 Af Ag f.length cf g.length cg f g W ((Pf.keep (show Ext w3 w4 from (by repeat (first | exact Ext.refl _ | assumption | refine Ext.alloc ?_ _ | refine Ext.drew ?_ | refine Ext.drewN ?_ _ | refine Ext.trans ?_ ‹Ext _ _›)))).keep E) (Pg.keep E) (unhide Hf) (by omega) (unhide Hg) (by omega) (by omega))
    have hgI : ((g.length : Int) == 0) = false := by rw [beq_eq_false_iff_ne]; omega
    have hgI1 : (g.length : Int) - 1 = ((g.length - 1 : Nat) : Int) := by omega
    go_wp2_with fail
    refine (unhide CD _ (by repeat (first | exact Ext.refl _ | assumption | refine Ext.alloc ?_ _ | refine Ext.drew ?_ | refine Ext.drewN ?_ _ | refine Ext.trans ?_ ‹Ext _ _›))).mono ?_
    rintro e w5 ⟨⟨q, r, vN, uN, hD, rfl, MN, LN, neN⟩, EN⟩
    have Fw5 : Ext w4 w5 := Ext.trans (by repeat (first | exact Ext.refl _ | assumption | refine Ext.alloc ?_ _ | refine Ext.drew ?_ | refine Ext.drewN ?_ _ | refine Ext.trans ?_ ‹Ext _ _›)) EN
    obtain ⟨Aq, cq, rfl, Pq⟩ := MN.pv
    have BPq := MN.blk
    obtain ⟨Ar, cr, rfl, Pr_⟩ := LN.pv
    have BPr_ := LN.blk
    clear MN LN neN EN
    obtain ⟨hml, hql⟩ := hD.mul_len (unhide Hg)
    have hrl := hD.lt
    have hsl := Wm.addL_len P.p (Wm.mulL P.p q g) r
    have HB := hide (hD.back (unhide Hf))
    have HQ := hide hD.qP
    have HR := hide hD.rP
    clear hD CD
    have C1 := hide (fun (W : World) (E : Ext w5 W) => Mul_ok P h9 Aq Ag q.length cq g.length cg q g W (Pq.keep E) ((Pg.keep (show Ext w4 w5 from (by repeat (first | exact Ext.refl _ | assumption | refine Ext.alloc ?_ _ | refine Ext.drew ?_ | refine Ext.drewN ?_ _ | refine Ext.trans ?_ ‹Ext _ _›)))).keep E) (unhide HQ) (by omega) (unhide Hg) (by omega) (by omega))
    go_wp2_with fail
    refine (unhide C1 _ (by repeat (first | exact Ext.refl _ | assumption | refine Ext.alloc ?_ _ | refine Ext.drew ?_ | refine Ext.drewN ?_ _ | refine Ext.trans ?_ ‹Ext _ _›))).mono ?_
    rintro e w6 ⟨⟨vN, rfl, MN⟩, EN⟩
    have Fw6 : Ext w5 w6 := Ext.trans (by repeat (first | exact Ext.refl _ | assumption | refine Ext.alloc ?_ _ | refine Ext.drew ?_ | refine Ext.drewN ?_ _ | refine Ext.trans ?_ ‹Ext _ _›)) EN
    obtain ⟨A6, c6, rfl, P6⟩ := MN.pv
    have BP6 := MN.blk
    clear MN EN
    have C2 := hide (fun (W : World) (E : Ext w6 W) => Add_ok P h9 A6 Ar _ c6 r.length cr _ r W (P6.keep E) ((Pr_.keep (show Ext w5 w6 from (by repeat (first | exact Ext.refl _ | assumption | refine Ext.alloc ?_ _ | refine Ext.drew ?_ | refine Ext.drewN ?_ _ | refine Ext.trans ?_ ‹Ext _ _›)))).keep E) (Wm.mulL_isP P.pos _ _) (by omega) (unhide HR) (by omega))
    rw [unhide HB] at C2
    go_wp2_with fail
    refine (unhide C2 _ (by repeat (first | exact Ext.refl _ | assumption | refine Ext.alloc ?_ _ | refine Ext.drew ?_ | refine Ext.drewN ?_ _ | refine Ext.trans ?_ ‹Ext _ _›))).mono ?_
    rintro e w7 ⟨⟨vN, rfl, MN⟩, EN⟩
    have Fw7 : Ext w6 w7 := Ext.trans (by repeat (first | exact Ext.refl _ | assumption | refine Ext.alloc ?_ _ | refine Ext.drew ?_ | refine Ext.drewN ?_ _ | refine Ext.trans ?_ ‹Ext _ _›)) EN
    obtain ⟨A7, c7, rfl, P7⟩ := MN.pv
    have BP7 := MN.blk
    clear MN EN
    go_wp2_with fail
    refine (unhide CO3 P h9 12 (by omega) _ (by repeat (first | exact Ext.refl _ | assumption | refine Ext.alloc ?_ _ | refine Ext.drew ?_ | refine Ext.drewN ?_ _ | refine Ext.trans ?_ ‹Ext _ _›))).mono ?_
    rintro e w8 ⟨⟨vN, h, rfl, hN, lh, MN⟩, EN⟩
    have Fw8 : Ext w7 w8 := Ext.trans (by repeat (first | exact Ext.refl _ | assumption | refine Ext.alloc ?_ _ | refine Ext.drew ?_ | refine Ext.drewN ?_ _ | refine Ext.trans ?_ ‹Ext _ _›)) EN
    obtain ⟨Ah, ch, rfl, Ph⟩ := MN.pv
    have BPh := MN.blk
    have Hh := hide hN
    clear MN EN hN
    go_wp2_with fail
    refine (unhide CO1 P h9 (g.length - 1) (by omega) _ (by repeat (first | exact Ext.refl _ | assumption | refine Ext.alloc ?_ _ | refine Ext.drew ?_ | refine Ext.drewN ?_ _ | refine Ext.trans ?_ ‹Ext _ _›))).mono ?_
    rintro e w9 ⟨⟨vN, l, rfl, hN, ll, MN⟩, EN⟩
    have Fw9 : Ext w8 w9 := Ext.trans (by repeat (first | exact Ext.refl _ | assumption | refine Ext.alloc ?_ _ | refine Ext.drew ?_ | refine Ext.drewN ?_ _ | refine Ext.trans ?_ ‹Ext _ _›)) EN
    obtain ⟨Al, cl, rfl, Pl⟩ := MN.pv
    have BPl := MN.blk
    have Hl := hide hN
    clear MN EN hN
    have hml2 := Wm.mulL_len P.p h g
    have hsl2 := Wm.addL_len P.p (Wm.mulL P.p h g) l
    have HU := hide (Wm.IsDiv.of_add (g := g) (unhide Hh) (unhide Hl) (by omega))
    have C3 := hide (fun (W : World) (E : Ext w9 W) => Mul_ok P h9 Ah Ag h.length ch g.length cg h g W ((Ph.keep (show Ext w8 w9 from (by repeat (first | exact Ext.refl _ | assumption | refine Ext.alloc ?_ _ | refine Ext.drew ?_ | refine Ext.drewN ?_ _ | refine Ext.trans ?_ ‹Ext _ _›)))).keep E) ((Pg.keep (show Ext w4 w9 from (by repeat (first | exact Ext.refl _ | assumption | refine Ext.alloc ?_ _ | refine Ext.drew ?_ | refine Ext.drewN ?_ _ | refine Ext.trans ?_ ‹Ext _ _›)))).keep E) (unhide Hh) (by omega) (unhide Hg) (by omega) (by omega))
    go_wp2_with fail
    refine (unhide C3 _ (by repeat (first | exact Ext.refl _ | assumption | refine Ext.alloc ?_ _ | refine Ext.drew ?_ | refine Ext.drewN ?_ _ | refine Ext.trans ?_ ‹Ext _ _›))).mono ?_
    rintro e w10 ⟨⟨vN, rfl, MN⟩, EN⟩
    have Fw10 : Ext w9 w10 := Ext.trans (by repeat (first | exact Ext.refl _ | assumption | refine Ext.alloc ?_ _ | refine Ext.drew ?_ | refine Ext.drewN ?_ _ | refine Ext.trans ?_ ‹Ext _ _›)) EN
    obtain ⟨A10, c10, rfl, P10⟩ := MN.pv
    have BP10 := MN.blk
    clear MN EN
    have C4 := hide (fun (W : World) (E : Ext w10 W) => Add_ok P h9 A10 Al _ c10 l.length cl _ l W (P10.keep E) ((Pl.keep (show Ext w9 w10 from (by repeat (first | exact Ext.refl _ | assumption | refine Ext.alloc ?_ _ | refine Ext.drew ?_ | refine Ext.drewN ?_ _ | refine Ext.trans ?_ ‹Ext _ _›)))).keep E) (Wm.mulL_isP P.pos _ _) (by omega) (unhide Hl) (by omega))
    go_wp2_with fail
    refine (unhide C4 _ (by repeat (first | exact Ext.refl _ | assumption | refine Ext.alloc ?_ _ | refine Ext.drew ?_ | refine Ext.drewN ?_ _ | refine Ext.trans ?_ ‹Ext _ _›))).mono ?_
    rintro e w11 ⟨⟨vN, rfl, MN⟩, EN⟩
    have Fw11 : Ext w10 w11 := Ext.trans (by repeat (first | exact Ext.refl _ | assumption | refine Ext.alloc ?_ _ | refine Ext.drew ?_ | refine Ext.drewN ?_ _ | refine Ext.trans ?_ ‹Ext _ _›)) EN
    obtain ⟨A11, c11, rfl, P11⟩ := MN.pv
    have BP11 := MN.blk
    clear MN EN
    have C5 := hide (fun (W : World) (E : Ext w11 W) => Div_ok P h9 A11 Ag _ c11 g.length cg _ g W (P11.keep E) ((Pg.keep (show Ext w4 w11 from (by repeat (first | exact Ext.refl _ | assumption | refine Ext.alloc ?_ _ | refine Ext.drew ?_ | refine Ext.drewN ?_ _ | refine Ext.trans ?_ ‹Ext _ _›)))).keep E) (Wm.addL_isP P.pos _ _) (by omega) (unhide Hg) (by omega) (by omega))
    go_wp2_with fail
    refine (unhide C5 _ (by repeat (first | exact Ext.refl _ | assumption | refine Ext.alloc ?_ _ | refine Ext.drew ?_ | refine Ext.drewN ?_ _ | refine Ext.trans ?_ ‹Ext _ _›))).mono ?_
    rintro e w12 ⟨⟨u, v, vN, uN, hD2, rfl, MN, LN, neN⟩, EN⟩
    have Fw12 : Ext w11 w12 := Ext.trans (by repeat (first | exact Ext.refl _ | assumption | refine Ext.alloc ?_ _ | refine Ext.drew ?_ | refine Ext.drewN ?_ _ | refine Ext.trans ?_ ‹Ext _ _›)) EN
    obtain ⟨Au, cu, rfl, Pu⟩ := MN.pv
    have BPu := MN.blk
    obtain ⟨Av, cv, rfl, Pv_⟩ := LN.pv
    have BPv_ := LN.blk
    clear MN LN neN EN
    obtain ⟨e1, e2⟩ := Wm.IsDiv.unique (unhide Hg) hD2 (unhide HU)
    have Q1 := hide (fun (W : World) (E : Ext w12 W) => equal_pv _ _ _ _ _ _ _ _ W ((P7.keep (show Ext w7 w12 from (by repeat (first | exact Ext.refl _ | assumption | refine Ext.alloc ?_ _ | refine Ext.drew ?_ | refine Ext.drewN ?_ _ | refine Ext.trans ?_ ‹Ext _ _›)))).keep E) ((Pf.keep (show Ext w3 w12 from (by repeat (first | exact Ext.refl _ | assumption | refine Ext.alloc ?_ _ | refine Ext.drew ?_ | refine Ext.drewN ?_ _ | refine Ext.trans ?_ ‹Ext _ _›)))).keep E))
    have Q2 := hide (fun (W : World) (E : Ext w12 W) => equal_pv _ _ _ _ _ _ _ _ W (Pu.keep E) ((Ph.keep (show Ext w8 w12 from (by repeat (first | exact Ext.refl _ | assumption | refine Ext.alloc ?_ _ | refine Ext.drew ?_ | refine Ext.drewN ?_ _ | refine Ext.trans ?_ ‹Ext _ _›)))).keep E))
    have Q3 := hide (fun (W : World) (E : Ext w12 W) => equal_pv _ _ _ _ _ _ _ _ W (Pv_.keep E) ((Pl.keep (show Ext w9 w12 from (by repeat (first | exact Ext.refl _ | assumption | refine Ext.alloc ?_ _ | refine Ext.drew ?_ | refine Ext.drewN ?_ _ | refine Ext.trans ?_ ‹Ext _ _›)))).keep E))
    rw [decide_eq_true rfl] at Q1
    rw [decide_eq_true e1] at Q2
    rw [decide_eq_true e2] at Q3
    have HE := (show Ext w w12 from (by repeat (first | exact Ext.refl _ | assumption | refine Ext.alloc ?_ _ | refine Ext.drew ?_ | refine Ext.drewN ?_ _ | refine Ext.trans ?_ ‹Ext _ _›)))
    clear e1 e2 hD2 HU C1 C2 C3 C4 C5 CO1 CO2 CO3 P6 P7 P10 P11 Pu Pv_ Pf Pg Ph Pl Pq Pr_ hml hml2 hsl hsl2 hql
    have hrI : (r.length : Int) < (g.length : Int) := by omega
    go_wp2_with (go_at_call 19; refine (good_made' [0, 0, 0, 0, 0, 0] _ _ _ _ _ rfl rfl (by decide) (by simp)).mono ?_; rintro e wg ⟨rfl, rfl⟩)
    refine (unhide Q1 _ (by repeat (first | exact Ext.refl _ | assumption | refine Ext.alloc ?_ _ | refine Ext.drew ?_ | refine Ext.drewN ?_ _ | refine Ext.trans ?_ ‹Ext _ _›))).mono ?_
    rintro e wa ⟨rfl, ka, rfl⟩
    go_wp2_with fail
    refine (unhide Q2 _ (by repeat (first | exact Ext.refl _ | assumption | refine Ext.alloc ?_ _ | refine Ext.drew ?_ | refine Ext.drewN ?_ _ | refine Ext.trans ?_ ‹Ext _ _›))).mono ?_
    rintro e wb ⟨rfl, kb, rfl⟩
    go_wp2_with fail
    refine (unhide Q3 _ (by repeat (first | exact Ext.refl _ | assumption | refine Ext.alloc ?_ _ | refine Ext.drew ?_ | refine Ext.drewN ?_ _ | refine Ext.trans ?_ ‹Ext _ _›))).mono ?_
    rintro e wc ⟨rfl, kc, rfl⟩
    go_wp2
    go_ret
    exact ⟨rfl, (by repeat (first | exact HE | refine Ext.alloc ?_ _ | refine Ext.drew ?_ | refine Ext.drewN ?_ _ | (refine Ext.trans ?_ (plus_ext _ _)) | (refine Ext.setCell ?_ (by have := Ext.size HE; simp; omega) _)))⟩
end Go.Proofs.Ytkfdimofkkckeaa

/-
  The law PolyRing returns true: the walk.
-/
import Derived.Test.YtkfdimofkkckeaaPoly7
set_option linter.unusedVariables false
set_option linter.unusedSimpArgs false
namespace Wm
theorem ring_facts {P : Pr} {f g h : List Nat} (hf : IsP P.p f) (hg : IsP P.p g) (hh : IsP P.p h) :
    mulL P.p f g = mulL P.p g f ∧ mulL P.p (mulL P.p f g) h = mulL P.p f (mulL P.p g h) ∧ mulL P.p f (addL P.p g h) = addL P.p (mulL P.p f g) (mulL P.p f h) ∧ (f ≠ [] → g ≠ [] → (mulL P.p f g).length = f.length + g.length - 1) := by
  have m := mulL_isP P.pos
  have a := addL_isP P.pos
  refine ⟨(m _ _).ext (m _ _) ?_, (m _ _).ext (m _ _) ?_, (m _ _).ext (a _ _) ?_, mulL_len_eq hf hg⟩
  · rw [mulL_ser, mulL_ser, Fld.conv_comm]
  · rw [mulL_ser, mulL_ser, mulL_ser, mulL_ser, Fld.conv_assoc]
  · rw [mulL_ser, addL_ser, addL_ser, mulL_ser, mulL_ser, Fld.conv_ad_right]
end Wm
namespace Go.Proofs.Ytkfdimofkkckeaa
open Go.RowKit Go.BigFrame

set_option maxRecDepth 100000 in
set_option maxHeartbeats 4000000 in
theorem ring_law (a : Int) (A1 : Option Addr) (n1 c1 : Nat) (l1 : List Int) (A2 : Option Addr) (n2 c2 : Nat) (l2 : List Int) (A3 : Option Addr) (n3 c3 : Nat) (l3 : List Int) (w : World)
    (S1 : SliceIn w A1 n1 c1 1 8 (ints l1)) (_ : ∀ x ∈ l1, -9223372036854775808 ≤ x ∧ x ≤ 9223372036854775807) (S2 : SliceIn w A2 n2 c2 1 8 (ints l2)) (_ : ∀ x ∈ l2, -9223372036854775808 ≤ x ∧ x ≤ 9223372036854775807)
    (S3 : SliceIn w A3 n3 c3 1 8 (ints l3)) (_ : ∀ x ∈ l3, -9223372036854775808 ≤ x ∧ x ≤ 9223372036854775807) :
    Calls Try.prog 3 #[.int .i64 a, .slice A1 n1 c1, .slice A2 n2 c2, .slice A3 n3 c3] w fun e w' => e = .returned (.bool true) ∧ Ext w w' := by
  have C0 := hide (polys_any w)
  have CF := hide (fun w : World => fieldOf_any a w)
  have CO1 := hide (fun (P : Wm.Pr) (h9 : P.p ≤ 997) (W : World) (E : Ext w W) => polyOf_ok P h9 A1 n1 c1 l1 12 W (S1.1.keep E) S1.2.1 (by have := S1.2.2.2.1; omega) S1.2.2.2.2 (by omega))
  have CO2 := hide (fun (P : Wm.Pr) (h9 : P.p ≤ 997) (W : World) (E : Ext w W) => polyOf_ok P h9 A2 n2 c2 l2 12 W (S2.1.keep E) S2.2.1 (by have := S2.2.2.2.1; omega) S2.2.2.2.2 (by omega))
  have CO3 := hide (fun (P : Wm.Pr) (h9 : P.p ≤ 997) (W : World) (E : Ext w W) => polyOf_ok P h9 A3 n3 c3 l3 12 W (S3.1.keep E) S3.2.1 (by have := S3.2.2.2.1; omega) S3.2.2.2.2 (by omega))
  clear S1 S2 S3
  go_enter Try.func3, Try.ntmps3
  go_wp2_with fail
  refine (unhide C0).mono ?_
  rintro e w1 ⟨rfl, E1⟩
  go_wp2_with fail
  refine (unhide CF _).mono ?_
  rintro e w2 ⟨⟨P, h9, rfl⟩, k2, rfl⟩
  go_wp2_with fail
  refine (unhide CO1 P h9 _ (by repeat (first | exact E1 | refine Ext.alloc ?_ _ | refine Ext.drew ?_ | refine Ext.drewN ?_ _ | (refine Ext.trans ?_ (plus_ext _ _)) | (refine Ext.setCell ?_ (by have := Ext.size E1; simp; omega) _)))).mono ?_
  rintro e w3 ⟨⟨vf, f, rfl, hf, lf, Mf⟩, E3'⟩
  have E3 : Ext w w3 := Ext.trans (by repeat (first | exact E1 | refine Ext.alloc ?_ _ | refine Ext.drew ?_ | refine Ext.drewN ?_ _ | (refine Ext.trans ?_ (plus_ext _ _)) | (refine Ext.setCell ?_ (by have := Ext.size E1; simp; omega) _))) E3'
  obtain ⟨Af, cf, rfl, Pf⟩ := Mf.pv
  clear Mf E3'
  go_wp2_with fail
  refine (unhide CO2 P h9 _ (by repeat (first | exact E3 | refine Ext.alloc ?_ _ | refine Ext.drew ?_ | refine Ext.drewN ?_ _ | (refine Ext.trans ?_ (plus_ext _ _)) | (refine Ext.setCell ?_ (by have := Ext.size E3; simp; omega) _)))).mono ?_
  rintro e w4 ⟨⟨vg, g, rfl, hg, lg, Mg⟩, E4'⟩
  have F4 : Ext w3 w4 := Ext.trans (by repeat (first | exact Ext.refl w3 | refine Ext.alloc ?_ _ | refine Ext.drew ?_ | refine Ext.drewN ?_ _ | (refine Ext.trans ?_ (plus_ext _ _)) | (refine Ext.setCell ?_ (by have := Ext.size Ext.refl w3; simp; omega) _))) E4'
  have E4 := E3.trans F4
  obtain ⟨Ag, cg, rfl, Pg⟩ := Mg.pv
  clear Mg E4'
  go_wp2_with fail
  refine (unhide CO3 P h9 _ (by repeat (first | exact E4 | refine Ext.alloc ?_ _ | refine Ext.drew ?_ | refine Ext.drewN ?_ _ | (refine Ext.trans ?_ (plus_ext _ _)) | (refine Ext.setCell ?_ (by have := Ext.size E4; simp; omega) _)))).mono ?_
  rintro e w5 ⟨⟨vh, h, rfl, hh, lh, Mh⟩, E5'⟩
  have F5 : Ext w4 w5 := Ext.trans (by repeat (first | exact Ext.refl w4 | refine Ext.alloc ?_ _ | refine Ext.drew ?_ | refine Ext.drewN ?_ _ | (refine Ext.trans ?_ (plus_ext _ _)) | (refine Ext.setCell ?_ (by have := Ext.size Ext.refl w4; simp; omega) _))) E5'
  have E5 := E4.trans F5
  obtain ⟨Ah, ch, rfl, Ph⟩ := Mh.pv
  clear Mh E5'
  have P1 := hide ((Pf.keep F4).keep F5)
  have P2 := hide (Pg.keep F5)
  have P3 := hide Ph
  clear Pf Pg Ph F4 F5
  have Hf := hide hf
  have Hg := hide hg
  have Hh := hide hh
  have HFAC := hide (Wm.ring_facts hf hg hh)
  clear hf hg hh CO1 CO2 CO3 CF C0
  have hm := Wm.mulL_isP P.pos
  have hs := Wm.addL_isP P.pos
  have hml := Wm.mulL_len P.p
  have hsl := Wm.addL_len P.p
  have hlfg := hml f g
  have hlgh := hml g h
  have hlfh := hml f h
  have hlsh := hsl g h
  -- f*g
  have C1 := hide (fun (W : World) (E : Ext w5 W) => Mul_ok P h9 Af Ag f.length cf g.length cg f g W ((unhide P1).keep E) ((unhide P2).keep E) (unhide Hf) (by omega) (unhide Hg) (by omega) (by omega))
  have C2 := hide (fun (W : World) (E : Ext w5 W) => Mul_ok P h9 Ag Af g.length cg f.length cf g f W ((unhide P2).keep E) ((unhide P1).keep E) (unhide Hg) (by omega) (unhide Hf) (by omega) (by have := hml g f; omega))
  have C3 := hide (fun (W : World) (E : Ext w5 W) (B : Option Addr) (c : Nat) (R : Pv W B (Wm.mulL P.p f g).length c (Wm.mulL P.p f g)) => Mul_ok P h9 B Ah (Wm.mulL P.p f g).length c h.length ch (Wm.mulL P.p f g) h W R ((unhide P3).keep E) (hm _ _) (by omega) (unhide Hh) (by omega) (by have := hml (Wm.mulL P.p f g) h; omega))
  have C4 := hide (fun (W : World) (E : Ext w5 W) => Mul_ok P h9 Ag Ah g.length cg h.length ch g h W ((unhide P2).keep E) ((unhide P3).keep E) (unhide Hg) (by omega) (unhide Hh) (by omega) (by omega))
  have C5 := hide (fun (W : World) (E : Ext w5 W) (B : Option Addr) (c : Nat) (R : Pv W B (Wm.mulL P.p g h).length c (Wm.mulL P.p g h)) => Mul_ok P h9 Af B f.length cf (Wm.mulL P.p g h).length c f (Wm.mulL P.p g h) W ((unhide P1).keep E) R (unhide Hf) (by omega) (hm _ _) (by omega) (by have := hml f (Wm.mulL P.p g h); omega))
  have C6 := hide (fun (W : World) (E : Ext w5 W) => Add_ok P h9 Ag Ah g.length cg h.length ch g h W ((unhide P2).keep E) ((unhide P3).keep E) (unhide Hg) (by omega) (unhide Hh) (by omega))
  have C7 := hide (fun (W : World) (E : Ext w5 W) (B : Option Addr) (c : Nat) (R : Pv W B (Wm.addL P.p g h).length c (Wm.addL P.p g h)) => Mul_ok P h9 Af B f.length cf (Wm.addL P.p g h).length c f (Wm.addL P.p g h) W ((unhide P1).keep E) R (unhide Hf) (by omega) (hs _ _) (by omega) (by have := hml f (Wm.addL P.p g h); omega))
  have C8 := hide (fun (W : World) (E : Ext w5 W) => Mul_ok P h9 Af Ah f.length cf h.length ch f h W ((unhide P1).keep E) ((unhide P3).keep E) (unhide Hf) (by omega) (unhide Hh) (by omega) (by omega))
  have C9 := hide (fun (W : World) (B : Option Addr) (c : Nat) (R : Pv W B (Wm.mulL P.p f g).length c (Wm.mulL P.p f g)) (D : Option Addr) (d : Nat) (S : Pv W D (Wm.mulL P.p f h).length d (Wm.mulL P.p f h)) =>
    Add_ok P h9 B D (Wm.mulL P.p f g).length c (Wm.mulL P.p f h).length d (Wm.mulL P.p f g) (Wm.mulL P.p f h) W R S (hm _ _) (by omega) (hm _ _) (by omega))
  have HLEN := hide (show f.length ≤ 12 ∧ g.length ≤ 12 ∧ (Wm.mulL P.p f g).length ≤ f.length + g.length - 1 from ⟨lf, lg, hlfg⟩)
  generalize hfg : Wm.mulL P.p f g = fg at *
  generalize hgf : Wm.mulL P.p g f = gf at *
  generalize hgh : Wm.mulL P.p g h = gh at *
  generalize hfh : Wm.mulL P.p f h = fh at *
  generalize hS : Wm.addL P.p g h = s at *
  generalize hX : Wm.mulL P.p fg h = x at *
  generalize hY : Wm.mulL P.p f gh = y at *
  generalize hZ : Wm.mulL P.p f s = z at *
  generalize hW : Wm.addL P.p fg fh = ww at *
  clear hfg hgf hgh hfh hS hX hY hZ hW hm hs hml hsl hlfg hlgh hlfh hlsh
  go_wp2_with fail
  refine (unhide C1 _ (by repeat (first | exact Ext.refl _ | assumption | refine Ext.alloc ?_ _ | refine Ext.drew ?_ | refine Ext.drewN ?_ _ | refine Ext.trans ?_ ‹Ext _ _›))).mono ?_
  rintro e w6 ⟨⟨vN, rfl, MN⟩, EN⟩
  have Fw6 : Ext w5 w6 := Ext.trans (by repeat (first | exact Ext.refl _ | assumption | refine Ext.alloc ?_ _ | refine Ext.drew ?_ | refine Ext.drewN ?_ _ | refine Ext.trans ?_ ‹Ext _ _›)) EN
  obtain ⟨A6, c6, rfl, P6⟩ := MN.pv
  have BP6 := MN.blk
  clear MN EN
  go_wp2_with fail
  refine (unhide C2 _ (by repeat (first | exact Ext.refl _ | assumption | refine Ext.alloc ?_ _ | refine Ext.drew ?_ | refine Ext.drewN ?_ _ | refine Ext.trans ?_ ‹Ext _ _›))).mono ?_
  rintro e w7 ⟨⟨vN, rfl, MN⟩, EN⟩
  have Fw7 : Ext w6 w7 := Ext.trans (by repeat (first | exact Ext.refl _ | assumption | refine Ext.alloc ?_ _ | refine Ext.drew ?_ | refine Ext.drewN ?_ _ | refine Ext.trans ?_ ‹Ext _ _›)) EN
  obtain ⟨A7, c7, rfl, P7⟩ := MN.pv
  have BP7 := MN.blk
  clear MN EN
  go_wp2_with fail
  refine (unhide C3 _ (by repeat (first | exact Ext.refl _ | assumption | refine Ext.alloc ?_ _ | refine Ext.drew ?_ | refine Ext.drewN ?_ _ | refine Ext.trans ?_ ‹Ext _ _›)) _ _ (P6.keep (by repeat (first | exact Ext.refl _ | assumption | refine Ext.alloc ?_ _ | refine Ext.drew ?_ | refine Ext.drewN ?_ _ | refine Ext.trans ?_ ‹Ext _ _›)))).mono ?_
  rintro e w8 ⟨⟨vN, rfl, MN⟩, EN⟩
  have Fw8 : Ext w7 w8 := Ext.trans (by repeat (first | exact Ext.refl _ | assumption | refine Ext.alloc ?_ _ | refine Ext.drew ?_ | refine Ext.drewN ?_ _ | refine Ext.trans ?_ ‹Ext _ _›)) EN
  obtain ⟨A8, c8, rfl, P8⟩ := MN.pv
  have BP8 := MN.blk
  clear MN EN
  go_wp2_with fail
  refine (unhide C4 _ (by repeat (first | exact Ext.refl _ | assumption | refine Ext.alloc ?_ _ | refine Ext.drew ?_ | refine Ext.drewN ?_ _ | refine Ext.trans ?_ ‹Ext _ _›))).mono ?_
  rintro e w9 ⟨⟨vN, rfl, MN⟩, EN⟩
  have Fw9 : Ext w8 w9 := Ext.trans (by repeat (first | exact Ext.refl _ | assumption | refine Ext.alloc ?_ _ | refine Ext.drew ?_ | refine Ext.drewN ?_ _ | refine Ext.trans ?_ ‹Ext _ _›)) EN
  obtain ⟨A9, c9, rfl, P9⟩ := MN.pv
  have BP9 := MN.blk
  clear MN EN
  go_wp2_with fail
  refine (unhide C5 _ (by repeat (first | exact Ext.refl _ | assumption | refine Ext.alloc ?_ _ | refine Ext.drew ?_ | refine Ext.drewN ?_ _ | refine Ext.trans ?_ ‹Ext _ _›)) _ _ (P9.keep (by repeat (first | exact Ext.refl _ | assumption | refine Ext.alloc ?_ _ | refine Ext.drew ?_ | refine Ext.drewN ?_ _ | refine Ext.trans ?_ ‹Ext _ _›)))).mono ?_
  rintro e w10 ⟨⟨vN, rfl, MN⟩, EN⟩
  have Fw10 : Ext w9 w10 := Ext.trans (by repeat (first | exact Ext.refl _ | assumption | refine Ext.alloc ?_ _ | refine Ext.drew ?_ | refine Ext.drewN ?_ _ | refine Ext.trans ?_ ‹Ext _ _›)) EN
  obtain ⟨A10, c10, rfl, P10⟩ := MN.pv
  have BP10 := MN.blk
  clear MN EN
  go_wp2_with fail
  refine (unhide C6 _ (by repeat (first | exact Ext.refl _ | assumption | refine Ext.alloc ?_ _ | refine Ext.drew ?_ | refine Ext.drewN ?_ _ | refine Ext.trans ?_ ‹Ext _ _›))).mono ?_
  rintro e w11 ⟨⟨vN, rfl, MN⟩, EN⟩
  have Fw11 : Ext w10 w11 := Ext.trans (by repeat (first | exact Ext.refl _ | assumption | refine Ext.alloc ?_ _ | refine Ext.drew ?_ | refine Ext.drewN ?_ _ | refine Ext.trans ?_ ‹Ext _ _›)) EN
  obtain ⟨A11, c11, rfl, P11⟩ := MN.pv
  have BP11 := MN.blk
  clear MN EN
  go_wp2_with fail
  refine (unhide C7 _ (by repeat (first | exact Ext.refl _ | assumption | refine Ext.alloc ?_ _ | refine Ext.drew ?_ | refine Ext.drewN ?_ _ | refine Ext.trans ?_ ‹Ext _ _›)) _ _ (P11.keep (by repeat (first | exact Ext.refl _ | assumption | refine Ext.alloc ?_ _ | refine Ext.drew ?_ | refine Ext.drewN ?_ _ | refine Ext.trans ?_ ‹Ext _ _›)))).mono ?_
  rintro e w12 ⟨⟨vN, rfl, MN⟩, EN⟩
  have Fw12 : Ext w11 w12 := Ext.trans (by repeat (first | exact Ext.refl _ | assumption | refine Ext.alloc ?_ _ | refine Ext.drew ?_ | refine Ext.drewN ?_ _ | refine Ext.trans ?_ ‹Ext _ _›)) EN
  obtain ⟨A12, c12, rfl, P12⟩ := MN.pv
  have BP12 := MN.blk
  clear MN EN
  go_wp2_with fail
  refine (unhide C8 _ (by repeat (first | exact Ext.refl _ | assumption | refine Ext.alloc ?_ _ | refine Ext.drew ?_ | refine Ext.drewN ?_ _ | refine Ext.trans ?_ ‹Ext _ _›))).mono ?_
  rintro e w13 ⟨⟨vN, rfl, MN⟩, EN⟩
  have Fw13 : Ext w12 w13 := Ext.trans (by repeat (first | exact Ext.refl _ | assumption | refine Ext.alloc ?_ _ | refine Ext.drew ?_ | refine Ext.drewN ?_ _ | refine Ext.trans ?_ ‹Ext _ _›)) EN
  obtain ⟨A13, c13, rfl, P13⟩ := MN.pv
  have BP13 := MN.blk
  clear MN EN
  go_wp2_with fail
  refine (unhide C9 _ _ _ (P6.keep (by repeat (first | exact Ext.refl _ | assumption | refine Ext.alloc ?_ _ | refine Ext.drew ?_ | refine Ext.drewN ?_ _ | refine Ext.trans ?_ ‹Ext _ _›))) _ _ (P13.keep (by repeat (first | exact Ext.refl _ | assumption | refine Ext.alloc ?_ _ | refine Ext.drew ?_ | refine Ext.drewN ?_ _ | refine Ext.trans ?_ ‹Ext _ _›)))).mono ?_
  rintro e w14 ⟨⟨vN, rfl, MN⟩, EN⟩
  have Fw14 : Ext w13 w14 := Ext.trans (by repeat (first | exact Ext.refl _ | assumption | refine Ext.alloc ?_ _ | refine Ext.drew ?_ | refine Ext.drewN ?_ _ | refine Ext.trans ?_ ‹Ext _ _›)) EN
  obtain ⟨A14, c14, rfl, P14⟩ := MN.pv
  have BP14 := MN.blk
  clear MN EN
  have Q1 := hide (fun (W : World) (E : Ext w14 W) => equal_pv _ _ _ _ _ _ _ _ W ((P6.keep (show Ext w6 w14 from (by repeat (first | exact Ext.refl _ | assumption | refine Ext.alloc ?_ _ | refine Ext.drew ?_ | refine Ext.drewN ?_ _ | refine Ext.trans ?_ ‹Ext _ _›)))).keep E) ((P7.keep (show Ext w7 w14 from (by repeat (first | exact Ext.refl _ | assumption | refine Ext.alloc ?_ _ | refine Ext.drew ?_ | refine Ext.drewN ?_ _ | refine Ext.trans ?_ ‹Ext _ _›)))).keep E))
  have Q2 := hide (fun (W : World) (E : Ext w14 W) => equal_pv _ _ _ _ _ _ _ _ W ((P8.keep (show Ext w8 w14 from (by repeat (first | exact Ext.refl _ | assumption | refine Ext.alloc ?_ _ | refine Ext.drew ?_ | refine Ext.drewN ?_ _ | refine Ext.trans ?_ ‹Ext _ _›)))).keep E) ((P10.keep (show Ext w10 w14 from (by repeat (first | exact Ext.refl _ | assumption | refine Ext.alloc ?_ _ | refine Ext.drew ?_ | refine Ext.drewN ?_ _ | refine Ext.trans ?_ ‹Ext _ _›)))).keep E))
  have Q3 := hide (fun (W : World) (E : Ext w14 W) => equal_pv _ _ _ _ _ _ _ _ W ((P12.keep (show Ext w12 w14 from (by repeat (first | exact Ext.refl _ | assumption | refine Ext.alloc ?_ _ | refine Ext.drew ?_ | refine Ext.drewN ?_ _ | refine Ext.trans ?_ ‹Ext _ _›)))).keep E) (P14.keep E))
  obtain ⟨q1, q2, q3, q4⟩ := unhide HFAC
  rw [decide_eq_true q1] at Q1
  rw [decide_eq_true q2] at Q2
  rw [decide_eq_true q3] at Q3
  have HE := hide (show Ext w w14 from (by repeat (first | exact Ext.refl _ | assumption | refine Ext.alloc ?_ _ | refine Ext.drew ?_ | refine Ext.drewN ?_ _ | refine Ext.trans ?_ ‹Ext _ _›)))
  have H4 := hide q4
  clear q1 q2 q3 q4 P6 P7 P8 P9 P10 P11 P12 P13 P14 C1 C2 C3 C4 C5 C6 C7 C8 C9 HFAC P1 P2 P3 Hf Hg Hh
  go_wp2_with (go_at_call 19; refine (good_made' [0, 0, 0, 0, 0, 0, 0, 0, 0] _ _ _ _ _ rfl rfl (by decide) (by simp)).mono ?_; rintro e wg ⟨rfl, rfl⟩)
  refine (unhide Q1 _ (by repeat (first | exact Ext.refl _ | assumption | refine Ext.alloc ?_ _ | refine Ext.drew ?_ | refine Ext.drewN ?_ _ | refine Ext.trans ?_ ‹Ext _ _›))).mono ?_
  rintro e wa ⟨rfl, ka, rfl⟩
  go_wp2_with fail
  refine (unhide Q2 _ (by repeat (first | exact Ext.refl _ | assumption | refine Ext.alloc ?_ _ | refine Ext.drew ?_ | refine Ext.drewN ?_ _ | refine Ext.trans ?_ ‹Ext _ _›))).mono ?_
  rintro e wb ⟨rfl, kb, rfl⟩
  go_wp2_with fail
  refine (unhide Q3 _ (by repeat (first | exact Ext.refl _ | assumption | refine Ext.alloc ?_ _ | refine Ext.drew ?_ | refine Ext.drewN ?_ _ | refine Ext.trans ?_ ‹Ext _ _›))).mono ?_
  rintro e wc ⟨rfl, kc, rfl⟩
  obtain ⟨b1, b2, b3⟩ := unhide HLEN
  have HE2 := unhide HE
  by_cases hz : f.length * g.length = 0
  · have hzI : ((f.length : Int) * (g.length : Int) == 0) = true := by
      rw [beq_iff_eq, ← Int.natCast_mul, hz]; rfl
    have hb2 : (f.length : Int) * (g.length : Int) = 0 := by rw [← Int.natCast_mul, hz]; rfl
    clear hz HLEN HE H4
    go_wp2
    go_ret
    exact ⟨rfl, (by repeat (first | exact HE2 | refine Ext.alloc ?_ _ | refine Ext.drew ?_ | refine Ext.drewN ?_ _ | (refine Ext.trans ?_ (plus_ext _ _)) | (refine Ext.setCell ?_ (by have := Ext.size HE2; simp; omega) _)))⟩
  · have hf0 : f ≠ [] := fun e => hz (by rw [e]; simp)
    have hg0 : g ≠ [] := fun e => hz (by rw [e]; simp)
    have hl := unhide H4 hf0 hg0
    have l1 := List.length_pos_iff.2 hf0
    have l2 := List.length_pos_iff.2 hg0
    have hzI : ((f.length : Int) * (g.length : Int) == 0) = false := by
      rw [beq_eq_false_iff_ne, ← Int.natCast_mul]; omega
    have hm1 : (f.length : Int) * (g.length : Int) ≤ 1000 := by
      have := Nat.mul_le_mul b1 b2
      rw [← Int.natCast_mul]; omega
    have hm2 : 0 ≤ (f.length : Int) * (g.length : Int) := by rw [← Int.natCast_mul]; omega
    have hlI : ((fg.length : Int) == (f.length : Int) + (g.length : Int) - 1) = true := by rw [beq_iff_eq]; omega
    clear hz HLEN HE H4 hf0 hg0
    go_wp2
    go_ret
    exact ⟨ret_bool (by first | rfl | exact hlI | (simp; omega)), (by repeat (first | exact HE2 | refine Ext.alloc ?_ _ | refine Ext.drew ?_ | refine Ext.drewN ?_ _ | (refine Ext.trans ?_ (plus_ext _ _)) | (refine Ext.setCell ?_ (by have := Ext.size HE2; simp; omega) _)))⟩
end Go.Proofs.Ytkfdimofkkckeaa

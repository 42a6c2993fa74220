/-
  The law PolyCommon returns true: the walk.
-/
import Derived.Test.YtkfdimofkkckeaaPoly7
import Derived.Test.YtkfdimofkkckeaaZp3
set_option linter.unusedVariables false
set_option linter.unusedSimpArgs false
namespace Wm
open Fld
theorem gcd_5 {d : List Nat} (h : IsGcd P5 [4, 0, 1] [1, 1] d) : d = [1, 1] := by
  have h1 : IsP P5.p [1, 1] := ⟨by decide, fun _ => by decide⟩
  refine h.unique ⟨h1, ?_, Dv.refl _, fun c _ h => h, fun _ => rfl, fun e => absurd e (by simp)⟩
  have : mulL 5 [4, 1] [1, 1] = [4, 0, 1] := by decide +kernel
  rw [← this]
  exact dv_of_mul P5 [4, 1] [1, 1]
end Wm
namespace Go.Proofs.Ytkfdimofkkckeaa
open Go.RowKit Go.BigFrame

set_option maxRecDepth 100000 in
set_option maxHeartbeats 4000000 in
theorem common_law (a : Int) (A1 : Option Addr) (n1 c1 : Nat) (l1 : List Int) (A2 : Option Addr) (n2 c2 : Nat) (l2 : List Int) (A3 : Option Addr) (n3 c3 : Nat) (l3 : List Int) (w : World)
    (S1 : SliceIn w A1 n1 c1 1 8 (ints l1)) (_ : ∀ x ∈ l1, -9223372036854775808 ≤ x ∧ x ≤ 9223372036854775807) (S2 : SliceIn w A2 n2 c2 1 8 (ints l2)) (_ : ∀ x ∈ l2, -9223372036854775808 ≤ x ∧ x ≤ 9223372036854775807)
    (S3 : SliceIn w A3 n3 c3 1 8 (ints l3)) (_ : ∀ x ∈ l3, -9223372036854775808 ≤ x ∧ x ≤ 9223372036854775807) :
    Calls Try.prog 6 #[.int .i64 a, .slice A1 n1 c1, .slice A2 n2 c2, .slice A3 n3 c3] w fun e w' => e = .returned (.bool true) ∧ Ext w w' := by
  have C0 := hide (fun w : World => polys_any w)
  have CG0 := hide (fun (W : World) (b b' : Nat) (R : Pv W (some ⟨b, 0, none⟩) 3 3 [4, 0, 1]) (S : Pv W (some ⟨b', 0, none⟩) 2 2 [1, 1]) => Gcd_poly Wm.P5 (by decide) (some ⟨b, 0, none⟩) (some ⟨b', 0, none⟩) 3 3 2 2 [4, 0, 1] [1, 1] W R S
    ⟨by decide, fun _ => by decide⟩ (by omega) ⟨by decide, fun _ => by decide⟩ (by omega))
  rw [show Wm.P5.p = 5 from rfl] at CG0
  have CF := hide (fun w : World => fieldOf_any a w)
  have CO1 := hide (fun (P : Wm.Pr) (h9 : P.p ≤ 997) (m : Nat) (hm : m ≤ 40) (W : World) (E : Ext w W) => polyOf_ok P h9 A1 n1 c1 l1 m W (S1.1.keep E) S1.2.1 (by have := S1.2.2.2.1; omega) S1.2.2.2.2 hm)
  have CO2 := hide (fun (P : Wm.Pr) (h9 : P.p ≤ 997) (m : Nat) (hm : m ≤ 40) (W : World) (E : Ext w W) => polyOf_ok P h9 A2 n2 c2 l2 m W (S2.1.keep E) S2.2.1 (by have := S2.2.2.2.1; omega) S2.2.2.2.2 hm)
  have CO3 := hide (fun (P : Wm.Pr) (h9 : P.p ≤ 997) (m : Nat) (hm : m ≤ 40) (W : World) (E : Ext w W) => polyOf_ok P h9 A3 n3 c3 l3 m W (S3.1.keep E) S3.2.1 (by have := S3.2.2.2.1; omega) S3.2.2.2.2 hm)
  clear S1 S2 S3
  go_enter Try.func6, Try.ntmps6
  go_wp2_with fail
  refine (unhide CG0 _ _ _ ⟨(row_new w #[.int .i64 4, .int .i64 0, .int .i64 1] 3 3 1 rfl).alloc _, Nat.le_refl _, by omega, fun h => by cases h⟩ ⟨by
    have := row_new (w.alloc (.cells #[.int .i64 4, .int .i64 0, .int .i64 1] 3)) #[.int .i64 1, .int .i64 1] 3 2 1 rfl
    rw [show (w.alloc (.cells #[.int .i64 4, .int .i64 0, .int .i64 1] 3)).heap.size = w.heap.size + 1 by simp] at this
    exact this, Nat.le_refl _, by omega, fun h => by cases h⟩).mono ?_
  rintro e w0 ⟨⟨d0, vN, hG, -, rfl, MN⟩, EN⟩
  have Fw0 : Ext w w0 := Ext.trans (by repeat (first | exact Ext.refl _ | assumption | refine Ext.alloc ?_ _ | refine Ext.drew ?_ | refine Ext.drewN ?_ _ | refine Ext.trans ?_ ‹Ext _ _›)) EN
  obtain rfl := Wm.gcd_5 hG
  obtain ⟨A0, c0, rfl, P0⟩ := MN.pv
  have CE := hide (fun (W : World) (E : Ext w0 W) (b : Nat) (S : Pv W (some ⟨b, 0, none⟩) 2 2 [1, 1]) => equal_pv A0 (some ⟨b, 0, none⟩) 2 2 c0 2 [1, 1] [1, 1] W (P0.keep E) S)
  clear MN EN hG P0 CG0
  go_wp2_with fail
  refine (unhide CE _ (by repeat (first | exact Ext.refl _ | assumption | refine Ext.alloc ?_ _ | refine Ext.drew ?_ | refine Ext.drewN ?_ _ | refine Ext.trans ?_ ‹Ext _ _›)) _ ⟨row_new _ #[.int .i64 1, .int .i64 1] 3 2 1 rfl, Nat.le_refl _, by omega, fun h => by cases h⟩).mono ?_
  rintro e wa ⟨rfl, ka, rfl⟩
  go_wp2_with fail
  refine (unhide C0 _).mono ?_
  rintro e w1 ⟨rfl, EN⟩
  have Fw1 : Ext w0 w1 := Ext.trans (by repeat (first | exact Ext.refl _ | assumption | refine Ext.alloc ?_ _ | refine Ext.drew ?_ | refine Ext.drewN ?_ _ | refine Ext.trans ?_ ‹Ext _ _›)) EN
  clear EN CE
  go_wp2_with fail
  refine (unhide CF _).mono ?_
  rintro e w2 ⟨⟨P, h9, rfl⟩, k2, rfl⟩
  go_wp2_with fail
  refine (unhide CO1 P h9 15 (by omega) _ (by repeat (first | exact Ext.refl _ | assumption | refine Ext.alloc ?_ _ | refine Ext.drew ?_ | refine Ext.drewN ?_ _ | refine Ext.trans ?_ ‹Ext _ _›))).mono ?_
  rintro e w3 ⟨⟨vN, f, rfl, hN, lf, MN⟩, EN⟩
  have Fw3 : Ext w1 w3 := Ext.trans (by repeat (first | exact Ext.refl _ | assumption | refine Ext.alloc ?_ _ | refine Ext.drew ?_ | refine Ext.drewN ?_ _ | refine Ext.trans ?_ ‹Ext _ _›)) EN
  obtain ⟨Af, cf, rfl, Pf⟩ := MN.pv
  have BPf := MN.blk
  have Hf := hide hN
  clear MN EN hN
  go_wp2_with fail
  refine (unhide CO2 P h9 15 (by omega) _ (by repeat (first | exact Ext.refl _ | assumption | refine Ext.alloc ?_ _ | refine Ext.drew ?_ | refine Ext.drewN ?_ _ | refine Ext.trans ?_ ‹Ext _ _›))).mono ?_
  rintro e w4 ⟨⟨vN, g, rfl, hN, lg, MN⟩, EN⟩
  have Fw4 : Ext w3 w4 := Ext.trans (by repeat (first | exact Ext.refl _ | assumption | refine Ext.alloc ?_ _ | refine Ext.drew ?_ | refine Ext.drewN ?_ _ | refine Ext.trans ?_ ‹Ext _ _›)) EN
  obtain ⟨Ag, cg, rfl, Pg⟩ := MN.pv
  have BPg := MN.blk
  have Hg := hide hN
  clear MN EN hN
  go_wp2_with fail
  refine (unhide CO3 P h9 8 (by omega) _ (by repeat (first | exact Ext.refl _ | assumption | refine Ext.alloc ?_ _ | refine Ext.drew ?_ | refine Ext.drewN ?_ _ | refine Ext.trans ?_ ‹Ext _ _›))).mono ?_
  rintro e w5 ⟨⟨vN, h, rfl, hN, lh, MN⟩, EN⟩
  have Fw5 : Ext w4 w5 := Ext.trans (by repeat (first | exact Ext.refl _ | assumption | refine Ext.alloc ?_ _ | refine Ext.drew ?_ | refine Ext.drewN ?_ _ | refine Ext.trans ?_ ‹Ext _ _›)) EN
  obtain ⟨Ah, ch, rfl, Ph⟩ := MN.pv
  have BPh := MN.blk
  have Hh := hide hN
  clear MN EN hN
  clear CO1 CO2 CO3 C0 CF
  have Pf5 := Pf.keep (show Ext w3 w5 from (by repeat (first | exact Ext.refl _ | assumption | refine Ext.alloc ?_ _ | refine Ext.drew ?_ | refine Ext.drewN ?_ _ | refine Ext.trans ?_ ‹Ext _ _›)))
  have Pg5 := Pg.keep (show Ext w4 w5 from (by repeat (first | exact Ext.refl _ | assumption | refine Ext.alloc ?_ _ | refine Ext.drew ?_ | refine Ext.drewN ?_ _ | refine Ext.trans ?_ ‹Ext _ _›)))
  have C1 := hide (fun (W : World) (E : Ext w5 W) => Gcd_poly P h9 Af Ag _ cf _ cg f g W (Pf5.keep E) (Pg5.keep E) (unhide Hf) (by omega) (unhide Hg) (by omega))
  go_wp2_with fail
  refine (unhide C1 _ (by repeat (first | exact Ext.refl _ | assumption | refine Ext.alloc ?_ _ | refine Ext.drew ?_ | refine Ext.drewN ?_ _ | refine Ext.trans ?_ ‹Ext _ _›))).mono ?_
  rintro e w6 ⟨⟨d, vN, hG, hdl, rfl, MN⟩, EN⟩
  have Fw6 : Ext w5 w6 := Ext.trans (by repeat (first | exact Ext.refl _ | assumption | refine Ext.alloc ?_ _ | refine Ext.drew ?_ | refine Ext.drewN ?_ _ | refine Ext.trans ?_ ‹Ext _ _›)) EN
  obtain ⟨Ad, cd, rfl, Pd⟩ := MN.pv
  clear MN EN C1
  have HG := hide hG
  clear hG
  by_cases hd0 : d.length = 0
  · have hdn : d = [] := List.eq_nil_of_length_eq_zero hd0
    obtain ⟨rfl, rfl⟩ := (unhide HG).nil hdn
    subst hdn
    have HE := (show Ext w w6 from (by repeat (first | exact Ext.refl _ | assumption | refine Ext.alloc ?_ _ | refine Ext.drew ?_ | refine Ext.drewN ?_ _ | refine Ext.trans ?_ ‹Ext _ _›)))
    clear Pf Pg Ph Pf5 Pg5 Pd
    go_wp2
    go_ret
    exact ⟨ret_bool (by first | rfl | simp), (by repeat (first | exact HE | refine Ext.alloc ?_ _ | refine Ext.drew ?_ | refine Ext.drewN ?_ _ | (refine Ext.trans ?_ (plus_ext _ _)) | (refine Ext.setCell ?_ (by have := Ext.size HE; simp; omega) _)))⟩
  · have hdI : ((d.length : Int) == 0) = false := by rw [beq_eq_false_iff_ne]; omega
    have hdn : d ≠ [] := fun e => hd0 (by rw [e]; rfl)
    have hmon := (unhide HG).monic hdn
    have C2 := hide (fun (W : World) (E : Ext w6 W) => Div_ok P h9 Af Ad _ cf _ cd f d W ((Pf5.keep (show Ext w5 w6 from (by repeat (first | exact Ext.refl _ | assumption | refine Ext.alloc ?_ _ | refine Ext.drew ?_ | refine Ext.drewN ?_ _ | refine Ext.trans ?_ ‹Ext _ _›)))).keep E) (Pd.keep E) (unhide Hf) (by omega) (unhide HG).isP (by omega) (by omega))
    have C3 := hide (fun (W : World) (E : Ext w6 W) => Div_ok P h9 Ag Ad _ cg _ cd g d W ((Pg5.keep (show Ext w5 w6 from (by repeat (first | exact Ext.refl _ | assumption | refine Ext.alloc ?_ _ | refine Ext.drew ?_ | refine Ext.drewN ?_ _ | refine Ext.trans ?_ ‹Ext _ _›)))).keep E) (Pd.keep E) (unhide Hg) (by omega) (unhide HG).isP (by omega) (by omega))
    go_wp2_with fail
    refine (unhide C2 _ (by repeat (first | exact Ext.refl _ | assumption | refine Ext.alloc ?_ _ | refine Ext.drew ?_ | refine Ext.drewN ?_ _ | refine Ext.trans ?_ ‹Ext _ _›))).mono ?_
    rintro e w7 ⟨⟨q, r, vN, uN, hD, rfl, MN, LN, neN⟩, EN⟩
    have Fw7 : Ext w6 w7 := Ext.trans (by repeat (first | exact Ext.refl _ | assumption | refine Ext.alloc ?_ _ | refine Ext.drew ?_ | refine Ext.drewN ?_ _ | refine Ext.trans ?_ ‹Ext _ _›)) EN
    obtain ⟨Aq, cq, rfl, Pq⟩ := MN.pv
    have BPq := MN.blk
    obtain ⟨Ar, cr, rfl, Pr_⟩ := LN.pv
    have BPr_ := LN.blk
    clear MN LN neN EN
    obtain rfl := (hD.nil_iff (unhide HG).isP).2 (unhide HG).left
    clear hD
    go_wp2_with fail
    refine (unhide C3 _ (by repeat (first | exact Ext.refl _ | assumption | refine Ext.alloc ?_ _ | refine Ext.drew ?_ | refine Ext.drewN ?_ _ | refine Ext.trans ?_ ‹Ext _ _›))).mono ?_
    rintro e w8 ⟨⟨q', s, vN, uN, hD, rfl, MN, LN, neN⟩, EN⟩
    have Fw8 : Ext w7 w8 := Ext.trans (by repeat (first | exact Ext.refl _ | assumption | refine Ext.alloc ?_ _ | refine Ext.drew ?_ | refine Ext.drewN ?_ _ | refine Ext.trans ?_ ‹Ext _ _›)) EN
    obtain ⟨Aq', cq', rfl, Pq'⟩ := MN.pv
    have BPq' := MN.blk
    obtain ⟨As, cs, rfl, Ps⟩ := LN.pv
    have BPs := LN.blk
    clear MN LN neN EN
    obtain rfl := (hD.nil_iff (unhide HG).isP).2 (unhide HG).right
    clear hD C2 C3
    obtain ⟨bd, od, rfl, hbd, hcd⟩ := (Pd.keep (show Ext w6 w8 from (by repeat (first | exact Ext.refl _ | assumption | refine Ext.alloc ?_ _ | refine Ext.drew ?_ | refine Ext.drewN ?_ _ | refine Ext.trans ?_ ‹Ext _ _›)))).row.nat (k := d.length - 1) (by omega)
    rw [hmon] at hcd
    have hd1 : (d.length : Int) - 1 = ((d.length - 1 : Nat) : Int) := by omega
    have hcdA : ∀ o, (w8.alloc o).cell? ⟨bd, od + (d.length - 1), none⟩ = some (.int .i64 1) := fun o => (World.cell?_alloc_lt w8 o ⟨bd, od + (d.length - 1), none⟩ hbd).trans hcd
    go_wp2_with (go_at_call 19; refine (good_made' [0, 0] _ _ _ _ _ rfl rfl (by decide) (by simp)).mono ?_; rintro e wg ⟨rfl, rfl⟩)
    have Ph8 := Ph.keep (show Ext w5 w8 from (by repeat (first | exact Ext.refl _ | assumption | refine Ext.alloc ?_ _ | refine Ext.drew ?_ | refine Ext.drewN ?_ _ | refine Ext.trans ?_ ‹Ext _ _›)))
    have Pf8 := Pf5.keep (show Ext w5 w8 from (by repeat (first | exact Ext.refl _ | assumption | refine Ext.alloc ?_ _ | refine Ext.drew ?_ | refine Ext.drewN ?_ _ | refine Ext.trans ?_ ‹Ext _ _›)))
    have Pg8 := Pg5.keep (show Ext w5 w8 from (by repeat (first | exact Ext.refl _ | assumption | refine Ext.alloc ?_ _ | refine Ext.drew ?_ | refine Ext.drewN ?_ _ | refine Ext.trans ?_ ‹Ext _ _›)))
    have hml1 := Wm.mulL_len P.p f h
    have hml2 := Wm.mulL_len P.p g h
    have C4 := hide (fun (W : World) (E : Ext w8 W) => Mul_ok P h9 Af Ah _ cf _ ch f h W (Pf8.keep E) (Ph8.keep E) (unhide Hf) (by omega) (unhide Hh) (by omega) (by omega))
    have C5 := hide (fun (W : World) (E : Ext w8 W) => Mul_ok P h9 Ag Ah _ cg _ ch g h W (Pg8.keep E) (Ph8.keep E) (unhide Hg) (by omega) (unhide Hh) (by omega) (by omega))
    go_wp2_with fail
    refine (unhide C4 _ (by repeat (first | exact Ext.refl _ | assumption | refine Ext.alloc ?_ _ | refine Ext.drew ?_ | refine Ext.drewN ?_ _ | refine Ext.trans ?_ ‹Ext _ _›))).mono ?_
    rintro e w9 ⟨⟨vN, rfl, MN⟩, EN⟩
    have Fw9 : Ext w8 w9 := Ext.trans (by repeat (first | exact Ext.refl _ | assumption | refine Ext.alloc ?_ _ | refine Ext.drew ?_ | refine Ext.drewN ?_ _ | refine Ext.trans ?_ ‹Ext _ _›)) EN
    obtain ⟨A9, c9, rfl, P9⟩ := MN.pv
    have BP9 := MN.blk
    clear MN EN
    go_wp2_with fail
    refine (unhide C5 _ (by repeat (first | exact Ext.refl _ | assumption | refine Ext.alloc ?_ _ | refine Ext.drew ?_ | refine Ext.drewN ?_ _ | refine Ext.trans ?_ ‹Ext _ _›))).mono ?_
    rintro e w10 ⟨⟨vN, rfl, MN⟩, EN⟩
    have Fw10 : Ext w9 w10 := Ext.trans (by repeat (first | exact Ext.refl _ | assumption | refine Ext.alloc ?_ _ | refine Ext.drew ?_ | refine Ext.drewN ?_ _ | refine Ext.trans ?_ ‹Ext _ _›)) EN
    obtain ⟨A10, c10, rfl, P10⟩ := MN.pv
    have BP10 := MN.blk
    clear MN EN
    have C6 := hide (fun (W : World) (E : Ext w10 W) => Gcd_poly P h9 A9 A10 _ c9 _ c10 (Wm.mulL P.p f h) (Wm.mulL P.p g h) W ((P9.keep (show Ext w9 w10 from (by repeat (first | exact Ext.refl _ | assumption | refine Ext.alloc ?_ _ | refine Ext.drew ?_ | refine Ext.drewN ?_ _ | refine Ext.trans ?_ ‹Ext _ _›)))).keep E) (P10.keep E) (Wm.mulL_isP P.pos _ _) (by omega) (Wm.mulL_isP P.pos _ _) (by omega))
    go_wp2_with fail
    refine (unhide C6 _ (by repeat (first | exact Ext.refl _ | assumption | refine Ext.alloc ?_ _ | refine Ext.drew ?_ | refine Ext.drewN ?_ _ | refine Ext.trans ?_ ‹Ext _ _›))).mono ?_
    rintro e w11 ⟨⟨z, vN, hG2, hzl, rfl, MN⟩, EN⟩
    have Fw11 : Ext w10 w11 := Ext.trans (by repeat (first | exact Ext.refl _ | assumption | refine Ext.alloc ?_ _ | refine Ext.drew ?_ | refine Ext.drewN ?_ _ | refine Ext.trans ?_ ‹Ext _ _›)) EN
    obtain ⟨Az, cz, rfl, Pz⟩ := MN.pv
    clear MN EN
    have HE := And.intro (show Ext w w11 from (by repeat (first | exact Ext.refl _ | assumption | refine Ext.alloc ?_ _ | refine Ext.drew ?_ | refine Ext.drewN ?_ _ | refine Ext.trans ?_ ‹Ext _ _›))) trivial
    by_cases hh0 : h.length = 0
    · have hhn : h = [] := List.eq_nil_of_length_eq_zero hh0
      have hzn : z = [] := by
        have e1 : Wm.mulL P.p f h = [] := List.eq_nil_of_length_eq_zero (by subst hhn; simp [Wm.mulL])
        have e2 : Wm.mulL P.p g h = [] := List.eq_nil_of_length_eq_zero (by subst hhn; simp [Wm.mulL])
        rw [e1, e2] at hG2
        have h1 := hG2.all _ (Wm.Fld.Dv.refl _) (Wm.Fld.Dv.refl _)
        obtain ⟨nn, qq, -, e3⟩ := h1
        rw [Wm.ser_nil, Wm.Fld.conv_s0'] at e3
        exact hG2.isP.nil_of e3
      subst hzn
      subst hhn
      clear C4 C5 C6 hG2 HG Pf Pg Ph Pf5 Pg5 Pd P9 P10 Pf8 Pg8 Ph8 hcd hcdA
      go_wp2_with (go_at_call 19; refine (good_made' [0, 0, 0] _ _ _ _ _ rfl rfl (by decide) (by simp)).mono ?_; rintro e wg ⟨rfl, rfl⟩)
      go_ret
      exact ⟨ret_bool (by first | rfl | simp), (by repeat (first | exact HE.1 | refine Ext.alloc ?_ _ | refine Ext.drew ?_ | refine Ext.drewN ?_ _ | (refine Ext.trans ?_ (plus_ext _ _)) | (refine Ext.setCell ?_ (by have := Ext.size HE.1; simp; omega) _)))⟩
    · have hhn : h ≠ [] := fun e => hh0 (by rw [e]; rfl)
      have hhI : ((h.length : Int) == 0) = false := by rw [beq_eq_false_iff_ne]; omega
      obtain ⟨hzn, hdv, hlz⟩ := Wm.gcd_scale (unhide Hf) (unhide Hg) (unhide Hh) (unhide HG) hG2 hdn hhn
      have C7 := hide (fun (W : World) (E : Ext w11 W) => Div_ok P h9 Az Ah _ cz _ ch z h W (Pz.keep E) ((Ph8.keep (show Ext w8 w11 from (by repeat (first | exact Ext.refl _ | assumption | refine Ext.alloc ?_ _ | refine Ext.drew ?_ | refine Ext.drewN ?_ _ | refine Ext.trans ?_ ‹Ext _ _›)))).keep E) hG2.isP (by omega) (unhide Hh) (by omega) (by omega))
      have HZ := hide hdv
      have HLZ := hide hlz
      clear hdv hlz C4 C5 C6 hG2 hcd hcdA
      go_wp2_with (go_at_call 19; refine (good_made' [0, 0, 0] _ _ _ _ _ rfl rfl (by decide) (by simp)).mono ?_; rintro e wg ⟨rfl, rfl⟩)
      go_wp2_with fail
      refine (unhide C7 _ (by repeat (first | exact Ext.refl _ | assumption | refine Ext.alloc ?_ _ | refine Ext.drew ?_ | refine Ext.drewN ?_ _ | refine Ext.trans ?_ ‹Ext _ _›))).mono ?_
      rintro e w12 ⟨⟨q2, t, vN, uN, hD, rfl, MN, LN, neN⟩, EN⟩
      have Fw12 : Ext w11 w12 := Ext.trans (by repeat (first | exact Ext.refl _ | assumption | refine Ext.alloc ?_ _ | refine Ext.drew ?_ | refine Ext.drewN ?_ _ | refine Ext.trans ?_ ‹Ext _ _›)) EN
      obtain ⟨Aq2, cq2, rfl, Pq2⟩ := MN.pv
      have BPq2 := MN.blk
      obtain ⟨At, ct, rfl, Pt⟩ := LN.pv
      have BPt := LN.blk
      clear MN LN neN EN
      obtain rfl := (hD.nil_iff (unhide Hh)).2 (unhide HZ)
      have hlz := unhide HLZ
      have l1 := List.length_pos_iff.2 hdn
      have hzI : ((z.length : Int) == (d.length : Int) + (h.length : Int) - 1) = true := by rw [beq_iff_eq]; omega
      have hzI2 : (z.length : Int) = (d.length : Int) + (h.length : Int) - 1 := by omega
      have HE2 := HE.1.trans Fw12
      clear hD C7 hlz
      go_wp2
      go_ret
      exact ⟨ret_bool (by first | rfl | exact hzI | (simp; omega)), (by repeat (first | exact HE2 | refine Ext.alloc ?_ _ | refine Ext.drew ?_ | refine Ext.drewN ?_ _ | (refine Ext.trans ?_ (plus_ext _ _)) | (refine Ext.setCell ?_ (by have := Ext.size HE2; simp; omega) _)))⟩
end Go.Proofs.Ytkfdimofkkckeaa

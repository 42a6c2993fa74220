/-
  The law PolyValues returns true: the walk.
-/
import Derived.Test.YtkfdimofkkckeaaPoly7
import Derived.Test.YtkfdimofkkckeaaPolyAt
import Derived.Test.YtkfdimofkkckeaaZp3
set_option linter.unusedVariables false
set_option linter.unusedSimpArgs false
namespace Wm
theorem prime_7 : Prime 7 := pchk_spec (r := 1) (by decide +kernel)
def P7 : Pr := ⟨7, prime_7⟩
end Wm
namespace Go.Proofs.Ytkfdimofkkckeaa
open Go.RowKit Go.BigFrame

set_option maxRecDepth 100000 in
set_option maxHeartbeats 4000000 in
theorem values_law (a : Int) (A1 : Option Addr) (n1 c1 : Nat) (l1 : List Int) (A2 : Option Addr) (n2 c2 : Nat) (l2 : List Int) (x : Int) (w : World)
    (S1 : SliceIn w A1 n1 c1 1 8 (ints l1)) (_ : ∀ x ∈ l1, -9223372036854775808 ≤ x ∧ x ≤ 9223372036854775807) (S2 : SliceIn w A2 n2 c2 1 8 (ints l2)) (_ : ∀ x ∈ l2, -9223372036854775808 ≤ x ∧ x ≤ 9223372036854775807) :
    Calls Try.prog 4 #[.int .i64 a, .slice A1 n1 c1, .slice A2 n2 c2, .int .i64 x] w fun e w' => e = .returned (.bool true) ∧ Ext w w' := by
  have CA0 := hide (fun (W : World) (b : Nat) (hb : b < W.heap.size) (R : Pv W (some ⟨b, 0, none⟩) 3 3 [1, 2, 3]) => At_ok Wm.P7 (by decide) (some ⟨b, 0, none⟩) 3 3 [1, 2, 3] 2 W R (.inr ⟨b, 0, rfl, hb⟩) ⟨by decide, fun _ => by decide⟩ (by omega) 2 (by decide))
  rw [show Wm.evN Wm.P7.p [1, 2, 3] 2 = 3 by decide, show Wm.P7.p = 7 from rfl] at CA0
  have C0 := hide (fun w : World => polys_any w)
  have CF := hide (fun w : World => fieldOf_any a w)
  have CO1 := hide (fun (P : Wm.Pr) (h9 : P.p ≤ 997) (m : Nat) (hm : m ≤ 40) (W : World) (E : Ext w W) => polyOf_ok P h9 A1 n1 c1 l1 m W (S1.1.keep E) S1.2.1 (by have := S1.2.2.2.1; omega) S1.2.2.2.2 hm)
  have CO2 := hide (fun (P : Wm.Pr) (h9 : P.p ≤ 997) (m : Nat) (hm : m ≤ 40) (W : World) (E : Ext w W) => polyOf_ok P h9 A2 n2 c2 l2 m W (S2.1.keep E) S2.2.1 (by have := S2.2.2.2.1; omega) S2.2.2.2.2 hm)
  clear S1 S2
  go_enter Try.func4, Try.ntmps4
  go_wp2_with fail
  refine (unhide CA0 _ _ (by simp) ⟨row_new w #[.int .i64 1, .int .i64 2, .int .i64 3] 3 3 1 rfl, Nat.le_refl _, by omega, fun h => by cases h⟩).mono ?_
  rintro e w0 ⟨rfl, EN⟩
  have Fw0 : Ext w w0 := Ext.trans (by repeat (first | exact Ext.refl _ | assumption | refine Ext.alloc ?_ _ | refine Ext.drew ?_ | refine Ext.drewN ?_ _ | refine Ext.trans ?_ ‹Ext _ _›)) EN
  clear EN
  go_wp2_with fail
  refine (unhide C0 _).mono ?_
  rintro e w1 ⟨rfl, EN⟩
  have Fw1 : Ext w0 w1 := Ext.trans (by repeat (first | exact Ext.refl _ | assumption | refine Ext.alloc ?_ _ | refine Ext.drew ?_ | refine Ext.drewN ?_ _ | refine Ext.trans ?_ ‹Ext _ _›)) EN
  clear EN
  go_wp2_with fail
  refine (unhide CF _).mono ?_
  rintro e w2 ⟨⟨P, h9, rfl⟩, k2, rfl⟩
  go_wp2_with fail
  refine (unhide CO1 P h9 20 (by omega) _ (by repeat (first | exact Ext.refl _ | assumption | refine Ext.alloc ?_ _ | refine Ext.drew ?_ | refine Ext.drewN ?_ _ | refine Ext.trans ?_ ‹Ext _ _›))).mono ?_
  rintro e w3 ⟨⟨vN, f, rfl, hN, lf, MN⟩, EN⟩
  have Fw3 : Ext w1 w3 := Ext.trans (by repeat (first | exact Ext.refl _ | assumption | refine Ext.alloc ?_ _ | refine Ext.drew ?_ | refine Ext.drewN ?_ _ | refine Ext.trans ?_ ‹Ext _ _›)) EN
  obtain ⟨Af, cf, rfl, Pf⟩ := MN.pv
  have BPf := MN.blk
  have Hf := hide hN
  clear MN EN hN
  go_wp2_with fail
  refine (unhide CO2 P h9 20 (by omega) _ (by repeat (first | exact Ext.refl _ | assumption | refine Ext.alloc ?_ _ | refine Ext.drew ?_ | refine Ext.drewN ?_ _ | refine Ext.trans ?_ ‹Ext _ _›))).mono ?_
  rintro e w4 ⟨⟨vN, g, rfl, hN, lg, MN⟩, EN⟩
  have Fw4 : Ext w3 w4 := Ext.trans (by repeat (first | exact Ext.refl _ | assumption | refine Ext.alloc ?_ _ | refine Ext.drew ?_ | refine Ext.drewN ?_ _ | refine Ext.trans ?_ ‹Ext _ _›)) EN
  obtain ⟨Ag, cg, rfl, Pg⟩ := MN.pv
  have BPg := MN.blk
  have Hg := hide hN
  clear MN EN hN
  clear CO1 CO2 C0 CF CA0
  have hml := Wm.mulL_len P.p f g
  have hsl := Wm.addL_len P.p f g
  have hp := P.pos
  have hxb := Wm.emod_bound x (show (0 : Int) < (P.p : Int) by omega)
  obtain ⟨xr, hxr⟩ : ∃ xr : Nat, x % (P.p : Int) = (xr : Int) := ⟨(x % (P.p : Int)).toNat, by omega⟩
  have Pf4 := Pf.keep (show Ext w3 w4 from (by repeat (first | exact Ext.refl _ | assumption | refine Ext.alloc ?_ _ | refine Ext.drew ?_ | refine Ext.drewN ?_ _ | refine Ext.trans ?_ ‹Ext _ _›)))
  have Bf4 := BPf.keep (show Ext w3 w4 from (by repeat (first | exact Ext.refl _ | assumption | refine Ext.alloc ?_ _ | refine Ext.drew ?_ | refine Ext.drewN ?_ _ | refine Ext.trans ?_ ‹Ext _ _›)))
  have C1 := hide (fun (W : World) (E : Ext w4 W) => Add_ok P h9 Af Ag _ cf _ cg f g W (Pf4.keep E) (Pg.keep E) (unhide Hf) (by omega) (unhide Hg) (by omega))
  have C2 := hide (fun (W : World) (E : Ext w4 W) => Mul_ok P h9 Af Ag _ cf _ cg f g W (Pf4.keep E) (Pg.keep E) (unhide Hf) (by omega) (unhide Hg) (by omega) (by omega))
  have C3 := hide (fun (W : World) (E : Ext w4 W) => At_ok P h9 Af _ cf f x W (Pf4.keep E) (Bf4.keep E) (unhide Hf) (by omega) xr hxr)
  have C4 := hide (fun (W : World) (E : Ext w4 W) => At_ok P h9 Ag _ cg g x W (Pg.keep E) (BPg.keep E) (unhide Hg) (by omega) xr hxr)
  go_wp2_with fail
  refine (unhide C1 _ (by repeat (first | exact Ext.refl _ | assumption | refine Ext.alloc ?_ _ | refine Ext.drew ?_ | refine Ext.drewN ?_ _ | refine Ext.trans ?_ ‹Ext _ _›))).mono ?_
  rintro e w5 ⟨⟨vN, rfl, MN⟩, EN⟩
  have Fw5 : Ext w4 w5 := Ext.trans (by repeat (first | exact Ext.refl _ | assumption | refine Ext.alloc ?_ _ | refine Ext.drew ?_ | refine Ext.drewN ?_ _ | refine Ext.trans ?_ ‹Ext _ _›)) EN
  obtain ⟨A5, c5, rfl, P5⟩ := MN.pv
  have BP5 := MN.blk
  clear MN EN
  go_wp2_with fail
  refine (unhide C2 _ (by repeat (first | exact Ext.refl _ | assumption | refine Ext.alloc ?_ _ | refine Ext.drew ?_ | refine Ext.drewN ?_ _ | refine Ext.trans ?_ ‹Ext _ _›))).mono ?_
  rintro e w6 ⟨⟨vN, rfl, MN⟩, EN⟩
  have Fw6 : Ext w5 w6 := Ext.trans (by repeat (first | exact Ext.refl _ | assumption | refine Ext.alloc ?_ _ | refine Ext.drew ?_ | refine Ext.drewN ?_ _ | refine Ext.trans ?_ ‹Ext _ _›)) EN
  obtain ⟨A6, c6, rfl, P6⟩ := MN.pv
  have BP6 := MN.blk
  clear MN EN
  have C5 := hide (fun (W : World) (E : Ext w6 W) => At_ok P h9 A5 _ c5 (Wm.addL P.p f g) x W ((P5.keep (show Ext w5 w6 from (by repeat (first | exact Ext.refl _ | assumption | refine Ext.alloc ?_ _ | refine Ext.drew ?_ | refine Ext.drewN ?_ _ | refine Ext.trans ?_ ‹Ext _ _›)))).keep E) ((BP5.keep (show Ext w5 w6 from (by repeat (first | exact Ext.refl _ | assumption | refine Ext.alloc ?_ _ | refine Ext.drew ?_ | refine Ext.drewN ?_ _ | refine Ext.trans ?_ ‹Ext _ _›)))).keep E) (Wm.addL_isP P.pos _ _) (by omega) xr hxr)
  have C6 := hide (fun (W : World) (E : Ext w6 W) => At_ok P h9 A6 _ c6 (Wm.mulL P.p f g) x W (P6.keep E) (BP6.keep E) (Wm.mulL_isP P.pos _ _) (by omega) xr hxr)
  rw [Wm.evN_add] at C5
  rw [Wm.evN_mul] at C6
  have hu := Wm.evN_lt hp f xr
  have hv := Wm.evN_lt hp g xr
  generalize Wm.evN P.p f xr = u at *
  generalize Wm.evN P.p g xr = v at *
  clear P5 P6 BP5 BP6 Pf Pg Pf4 Bf4 BPf BPg C1 C2 hxr hxb hml hsl
  go_wp2_with fail
  refine (unhide C3 _ (by repeat (first | exact Ext.refl _ | assumption | refine Ext.alloc ?_ _ | refine Ext.drew ?_ | refine Ext.drewN ?_ _ | refine Ext.trans ?_ ‹Ext _ _›))).mono ?_
  rintro e w7 ⟨rfl, EN⟩
  have Fw7 : Ext w6 w7 := Ext.trans (by repeat (first | exact Ext.refl _ | assumption | refine Ext.alloc ?_ _ | refine Ext.drew ?_ | refine Ext.drewN ?_ _ | refine Ext.trans ?_ ‹Ext _ _›)) EN
  clear EN
  go_wp2_with fail
  refine (unhide C4 _ (by repeat (first | exact Ext.refl _ | assumption | refine Ext.alloc ?_ _ | refine Ext.drew ?_ | refine Ext.drewN ?_ _ | refine Ext.trans ?_ ‹Ext _ _›))).mono ?_
  rintro e w8 ⟨rfl, EN⟩
  have Fw8 : Ext w7 w8 := Ext.trans (by repeat (first | exact Ext.refl _ | assumption | refine Ext.alloc ?_ _ | refine Ext.drew ?_ | refine Ext.drewN ?_ _ | refine Ext.trans ?_ ‹Ext _ _›)) EN
  clear EN
  go_wp2_with fail
  refine (unhide C5 _ (by repeat (first | exact Ext.refl _ | assumption | refine Ext.alloc ?_ _ | refine Ext.drew ?_ | refine Ext.drewN ?_ _ | refine Ext.trans ?_ ‹Ext _ _›))).mono ?_
  rintro e w9 ⟨rfl, EN⟩
  have Fw9 : Ext w8 w9 := Ext.trans (by repeat (first | exact Ext.refl _ | assumption | refine Ext.alloc ?_ _ | refine Ext.drew ?_ | refine Ext.drewN ?_ _ | refine Ext.trans ?_ ‹Ext _ _›)) EN
  clear EN
  go_wp2_with fail
  refine (unhide C6 _ (by repeat (first | exact Ext.refl _ | assumption | refine Ext.alloc ?_ _ | refine Ext.drew ?_ | refine Ext.drewN ?_ _ | refine Ext.trans ?_ ‹Ext _ _›))).mono ?_
  rintro e w10 ⟨rfl, EN⟩
  have Fw10 : Ext w9 w10 := Ext.trans (by repeat (first | exact Ext.refl _ | assumption | refine Ext.alloc ?_ _ | refine Ext.drew ?_ | refine Ext.drewN ?_ _ | refine Ext.trans ?_ ‹Ext _ _›)) EN
  clear EN
  have HE := (show Ext w w10 from (by repeat (first | exact Ext.refl _ | assumption | refine Ext.alloc ?_ _ | refine Ext.drew ?_ | refine Ext.drewN ?_ _ | refine Ext.trans ?_ ‹Ext _ _›)))
  have h1 : ((u : Int) + (v : Int)) % (P.p : Int) = (((u + v) % P.p : Nat) : Int) := by rw [← Int.natCast_add]; rfl
  have h2 : (u : Int) * (v : Int) % (P.p : Int) = ((u * v % P.p : Nat) : Int) := by rw [← Int.natCast_mul]; rfl
  have h3 : (u : Int) * (v : Int) ≤ 994009 := by
    have : u * v ≤ 997 * 997 := Nat.mul_le_mul (by omega) (by omega)
    rw [← Int.natCast_mul]; omega
  have h4 : 0 ≤ (u : Int) * (v : Int) := by rw [← Int.natCast_mul]; omega
  generalize (u + v) % P.p = s at *
  generalize u * v % P.p = t at *
  go_wp2_with (go_at_call 19; refine (good_made' [0, 0, 0, 0, 0, 0] _ _ _ _ _ rfl rfl (by decide) (by simp)).mono ?_; rintro e wg ⟨rfl, rfl⟩)
  go_ret
  exact ⟨ret_bool (by first | rfl | simp), (by repeat (first | exact HE | refine Ext.alloc ?_ _ | refine Ext.drew ?_ | refine Ext.drewN ?_ _ | (refine Ext.trans ?_ (plus_ext _ _)) | (refine Ext.setCell ?_ (by have := Ext.size HE; simp; omega) _)))⟩
end Go.Proofs.Ytkfdimofkkckeaa

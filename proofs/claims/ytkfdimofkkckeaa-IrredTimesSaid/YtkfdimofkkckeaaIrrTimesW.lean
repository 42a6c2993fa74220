/-
  The law IrredTimes returns true: the walk.
-/
import Derived.Test.YtkfdimofkkckeaaIrr1
import Derived.Test.YtkfdimofkkckeaaPoly7
set_option linter.unusedVariables false
set_option linter.unusedSimpArgs false
namespace Wm
open Fld
theorem prime_2i : Prime 2 := pchk_spec (r := 0) (by decide +kernel)
def P2i : Pr := ⟨2, prime_2i⟩
theorem dv_root {P : Pr} {f : List Nat} {c x : Nat} (h : Dv (ser P [c, 1]) (ser P f)) (hx : evN P.p [c, 1] x = 0) : evN P.p f x = 0 := by
  obtain ⟨n, q, hq, e⟩ := h
  apply zp_inj (evN_lt P.pos _ _) P.pos
  have h1 := evs_conv hq (ser_dg P [c, 1]) (zp P x)
  have h2 := evN_evs P [c, 1] x
  rw [hx] at h2
  have h3 := evN_more P f x (n := max f.length (n + [c, 1].length)) (by omega)
  rw [h3, e, evs_more (dg_conv' hq (ser_dg P [c, 1])) (zp P x) (by omega), h1, ← h2, zp_zero, ml_z]
theorem irr_111 : Irr P2i [1, 1, 1] := by
  refine ⟨by decide, fun d h1 h2 k hk hd => ?_⟩
  have h2 : 2 * d + 1 ≤ 3 := h2
  obtain rfl : d = 1 := by omega
  have hk : k < 2 := hk
  have : k = 0 ∨ k = 1 := by omega
  rcases this with rfl | rfl
  · have := dv_root (P := P2i) (f := [1, 1, 1]) (c := 0) (x := 0) (by have e : monL P2i.p 1 0 = [0, 1] := by decide
                                                                      rwa [e] at hd) (by decide)
    exact absurd this (by decide)
  · have := dv_root (P := P2i) (f := [1, 1, 1]) (c := 1) (x := 1) (by have e : monL P2i.p 1 1 = [1, 1] := by decide
                                                                      rwa [e] at hd) (by decide)
    exact absurd this (by decide)
theorem irr_101 : ¬ Irr P2i [1, 0, 1] := by
  have h : mulL P2i.p [1, 1] [1, 1] = [1, 0, 1] := by decide +kernel
  rw [← h]
  exact not_irr ⟨by decide, fun _ => by decide⟩ ⟨by decide, fun _ => by decide⟩ (by decide) (by decide)
theorem pw_2i : ¬ 1000000 < pwN P2i.p ([1, 1, 1].length / 2 + 1) := by decide
end Wm
namespace Go.Proofs.Ytkfdimofkkckeaa
open Go.RowKit Go.BigFrame

set_option maxRecDepth 100000 in
set_option maxHeartbeats 1000000 in
theorem irreds_any (w : World) : Calls Try.prog 40 #[] w fun e w' => e = .returned (.bool true) ∧ Ext w w' := by
  have C1 := hide (fun (W : World) (b : Nat) (R : Pv W (some ⟨b, 0, none⟩) 3 3 [1, 1, 1]) => (Is_irr Wm.P2i (by decide) (some ⟨b, 0, none⟩) 3 3 [1, 1, 1] W R ⟨by decide, fun _ => by decide⟩ (by omega)).mono fun e w' h => (show e = .returned (.tuple #[.bool true, .int .i64 0]) ∧ Ext W w' from by
    obtain ⟨h | ⟨b, h, hb⟩, E⟩ := h
    · exact absurd h.1 Wm.pw_2i
    · exact ⟨by rw [h, hb.2 Wm.irr_111], E⟩))
  have C2 := hide (fun (W : World) (b : Nat) (R : Pv W (some ⟨b, 0, none⟩) 3 3 [1, 0, 1]) => (Is_irr Wm.P2i (by decide) (some ⟨b, 0, none⟩) 3 3 [1, 0, 1] W R ⟨by decide, fun _ => by decide⟩ (by omega)).mono fun e w' h => (show e = .returned (.tuple #[.bool false, .int .i64 0]) ∧ Ext W w' from by
    obtain ⟨h | ⟨b, h, hb⟩, E⟩ := h
    · exact absurd h.1 Wm.pw_2i
    · have hbf : b = false := Bool.eq_false_iff.2 fun e => Wm.irr_101 (hb.1 e)
      exact ⟨by rw [h, hbf], E⟩))
  rw [show Wm.P2i.p = 2 from rfl] at C1 C2
  go_enter Try.func40, Try.ntmps40
  go_wp2_with fail
  refine (unhide C1 _ _ ⟨row_new w #[.int .i64 1, .int .i64 1, .int .i64 1] 3 3 1 rfl, Nat.le_refl _, by omega, fun h => by cases h⟩).mono ?_
  rintro e w1 ⟨rfl, EN⟩
  have Fw1 : Ext w w1 := Ext.trans (by repeat (first | exact Ext.refl _ | assumption | refine Ext.alloc ?_ _ | refine Ext.drew ?_ | refine Ext.drewN ?_ _ | refine Ext.trans ?_ ‹Ext _ _›)) EN
  clear EN C1
  go_wp2_with fail
  refine (unhide C2 _ _ ⟨row_new w1 #[.int .i64 1, .int .i64 0, .int .i64 1] 3 3 1 rfl, Nat.le_refl _, by omega, fun h => by cases h⟩).mono ?_
  rintro e w2 ⟨rfl, EN⟩
  have Fw2 : Ext w1 w2 := Ext.trans (by repeat (first | exact Ext.refl _ | assumption | refine Ext.alloc ?_ _ | refine Ext.drew ?_ | refine Ext.drewN ?_ _ | refine Ext.trans ?_ ‹Ext _ _›)) EN
  clear EN C2
  go_wp2_with (go_at_call 19; refine (good_made' [0, 0] _ _ _ _ _ rfl rfl (by decide) (by simp)).mono ?_; rintro e wg ⟨rfl, rfl⟩)
  go_ret
  exact ⟨rfl, (by repeat (first | exact Ext.refl _ | assumption | refine Ext.alloc ?_ _ | refine Ext.drew ?_ | refine Ext.drewN ?_ _ | refine Ext.trans ?_ ‹Ext _ _›))⟩

set_option maxRecDepth 100000 in
set_option maxHeartbeats 1000000 in
theorem itimes_law (a : Int) (A1 : Option Addr) (n1 c1 : Nat) (l1 : List Int) (A2 : Option Addr) (n2 c2 : Nat) (l2 : List Int) (w : World)
    (S1 : SliceIn w A1 n1 c1 1 8 (ints l1)) (_ : ∀ x ∈ l1, -9223372036854775808 ≤ x ∧ x ≤ 9223372036854775807) (S2 : SliceIn w A2 n2 c2 1 8 (ints l2)) (_ : ∀ x ∈ l2, -9223372036854775808 ≤ x ∧ x ≤ 9223372036854775807) :
    Calls Try.prog 13 #[.int .i64 a, .slice A1 n1 c1, .slice A2 n2 c2] w fun e w' => e = .returned (.bool true) ∧ Ext w w' := by
  have CI := hide (irreds_any w)
  have C0 := hide (fun w : World => polys_any w)
  have CF := hide (fun w : World => fieldOf_any a w)
  have CO1 := hide (fun (P : Wm.Pr) (h9 : P.p ≤ 997) (m : Nat) (hm : m ≤ 40) (W : World) (E : Ext w W) => polyOf_ok P h9 A1 n1 c1 l1 m W (S1.1.keep E) S1.2.1 (by have := S1.2.2.2.1; omega) S1.2.2.2.2 hm)
  have CO2 := hide (fun (P : Wm.Pr) (h9 : P.p ≤ 997) (m : Nat) (hm : m ≤ 40) (W : World) (E : Ext w W) => polyOf_ok P h9 A2 n2 c2 l2 m W (S2.1.keep E) S2.2.1 (by have := S2.2.2.2.1; omega) S2.2.2.2.2 hm)
  clear S1 S2
  go_enter Try.func13, Try.ntmps13
  go_wp2_with fail
  refine (unhide CI).mono ?_
  rintro e w0 ⟨rfl, Fw0⟩
  go_wp2_with fail
  refine (unhide C0 _).mono ?_
  rintro e w1 ⟨rfl, Fw1⟩
  go_wp2_with fail
  refine (unhide CF _).mono ?_
  rintro e w2 ⟨⟨P, h9, rfl⟩, k2, rfl⟩
  go_wp2_with fail
  refine (unhide CO1 P h9 5 (by omega) _ (by repeat (first | exact Ext.refl _ | assumption | refine Ext.alloc ?_ _ | refine Ext.drew ?_ | refine Ext.drewN ?_ _ | refine Ext.trans ?_ ‹Ext _ _›))).mono ?_
  rintro e w3 ⟨⟨vN, f, rfl, hN, lf, MN⟩, EN⟩
  have Fw3 : Ext w1 w3 := Ext.trans (by repeat (first | exact Ext.refl _ | assumption | refine Ext.alloc ?_ _ | refine Ext.drew ?_ | refine Ext.drewN ?_ _ | refine Ext.trans ?_ ‹Ext _ _›)) EN
  obtain ⟨Af, cf, rfl, Pf⟩ := MN.pv
  have BPf := MN.blk
  have Hf := hide hN
  clear MN EN hN
  go_wp2_with fail
  refine (unhide CO2 P h9 5 (by omega) _ (by repeat (first | exact Ext.refl _ | assumption | refine Ext.alloc ?_ _ | refine Ext.drew ?_ | refine Ext.drewN ?_ _ | refine Ext.trans ?_ ‹Ext _ _›))).mono ?_
  rintro e w4 ⟨⟨vN, g, rfl, hN, lg, MN⟩, EN⟩
  have Fw4 : Ext w3 w4 := Ext.trans (by repeat (first | exact Ext.refl _ | assumption | refine Ext.alloc ?_ _ | refine Ext.drew ?_ | refine Ext.drewN ?_ _ | refine Ext.trans ?_ ‹Ext _ _›)) EN
  obtain ⟨Ag, cg, rfl, Pg⟩ := MN.pv
  have BPg := MN.blk
  have Hg := hide hN
  clear MN EN hN
  clear CO1 CO2 C0 CF CI
  have hml := Wm.mulL_len P.p f g
  have C1 := hide (fun (W : World) (E : Ext w4 W) => Mul_ok P h9 Af Ag _ cf _ cg f g W ((Pf.keep (show Ext w3 w4 from (by repeat (first | exact Ext.refl _ | assumption | refine Ext.alloc ?_ _ | refine Ext.drew ?_ | refine Ext.drewN ?_ _ | refine Ext.trans ?_ ‹Ext _ _›)))).keep E) (Pg.keep E) (unhide Hf) (by omega) (unhide Hg) (by omega) (by omega))
  go_wp2_with fail
  refine (unhide C1 _ (by repeat (first | exact Ext.refl _ | assumption | refine Ext.alloc ?_ _ | refine Ext.drew ?_ | refine Ext.drewN ?_ _ | refine Ext.trans ?_ ‹Ext _ _›))).mono ?_
  rintro e w5 ⟨⟨vN, rfl, MN⟩, EN⟩
  have Fw5 : Ext w4 w5 := Ext.trans (by repeat (first | exact Ext.refl _ | assumption | refine Ext.alloc ?_ _ | refine Ext.drew ?_ | refine Ext.drewN ?_ _ | refine Ext.trans ?_ ‹Ext _ _›)) EN
  obtain ⟨Ah, ch, rfl, Ph⟩ := MN.pv
  have BPh := MN.blk
  clear MN EN
  have C2 := hide (fun (W : World) (E : Ext w5 W) => Is_irr P h9 Ah _ ch (Wm.mulL P.p f g) W (Ph.keep E) (Wm.mulL_isP P.pos _ _) (by omega))
  have HNI := hide (fun (h1 : 2 ≤ f.length) (h2 : 2 ≤ g.length) => Wm.not_irr (unhide Hf) (unhide Hg) h1 h2)
  generalize Wm.mulL P.p f g = h at *
  clear C1 Ph Pf Pg
  go_wp2_with fail
  refine (unhide C2 _ (by repeat (first | exact Ext.refl _ | assumption | refine Ext.alloc ?_ _ | refine Ext.drew ?_ | refine Ext.drewN ?_ _ | refine Ext.trans ?_ ‹Ext _ _›))).mono ?_
  rintro e w6 ⟨hp, EN⟩
  have Fw6 : Ext w5 w6 := Ext.trans (by repeat (first | exact Ext.refl _ | assumption | refine Ext.alloc ?_ _ | refine Ext.drew ?_ | refine Ext.drewN ?_ _ | refine Ext.trans ?_ ‹Ext _ _›)) EN
  clear EN C2
  rcases hp with ⟨-, rfl⟩ | ⟨b, rfl, hb⟩
  · by_cases h1 : f.length < 2
    · go_wp2
      go_ret
      exact ⟨rfl, (by repeat (first | exact Ext.refl _ | assumption | refine Ext.alloc ?_ _ | refine Ext.drew ?_ | refine Ext.drewN ?_ _ | refine Ext.trans ?_ ‹Ext _ _›))⟩
    · by_cases h2 : g.length < 2
      · go_wp2
        go_ret
        exact ⟨rfl, (by repeat (first | exact Ext.refl _ | assumption | refine Ext.alloc ?_ _ | refine Ext.drew ?_ | refine Ext.drewN ?_ _ | refine Ext.trans ?_ ‹Ext _ _›))⟩
      · go_wp2
        go_ret
        exact ⟨rfl, (by repeat (first | exact Ext.refl _ | assumption | refine Ext.alloc ?_ _ | refine Ext.drew ?_ | refine Ext.drewN ?_ _ | refine Ext.trans ?_ ‹Ext _ _›))⟩
  · by_cases h1 : f.length < 2
    · clear hb
      go_wp2
      go_ret
      exact ⟨rfl, (by repeat (first | exact Ext.refl _ | assumption | refine Ext.alloc ?_ _ | refine Ext.drew ?_ | refine Ext.drewN ?_ _ | refine Ext.trans ?_ ‹Ext _ _›))⟩
    · by_cases h2 : g.length < 2
      · clear hb
        go_wp2
        go_ret
        exact ⟨rfl, (by repeat (first | exact Ext.refl _ | assumption | refine Ext.alloc ?_ _ | refine Ext.drew ?_ | refine Ext.drewN ?_ _ | refine Ext.trans ?_ ‹Ext _ _›))⟩
      · obtain rfl : b = false := Bool.eq_false_iff.2 fun e => unhide HNI (by omega) (by omega) (hb.1 e)
        clear hb
        go_wp2
        go_ret
        exact ⟨rfl, (by repeat (first | exact Ext.refl _ | assumption | refine Ext.alloc ?_ _ | refine Ext.drew ?_ | refine Ext.drewN ?_ _ | refine Ext.trans ?_ ‹Ext _ _›))⟩
end Go.Proofs.Ytkfdimofkkckeaa

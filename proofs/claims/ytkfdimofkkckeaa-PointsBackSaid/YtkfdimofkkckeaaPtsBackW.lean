/-
  The law PointsBack returns true: the walk.
-/
import Derived.Test.YtkfdimofkkckeaaPts4
set_option linter.unusedVariables false
set_option linter.unusedSimpArgs false
namespace Go.Proofs.Ytkfdimofkkckeaa
open Go.RowKit Go.BigFrame

set_option maxRecDepth 100000 in
set_option maxHeartbeats 4000000 in
theorem pback_law (a : Int) (A1 : Option Addr) (n1 c1 : Nat) (l1 : List Int) (x : Int) (w : World)
    (S1 : SliceIn w A1 n1 c1 1 8 (ints l1)) (_ : ∀ x ∈ l1, -9223372036854775808 ≤ x ∧ x ≤ 9223372036854775807) :
    Calls Try.prog 9 #[.int .i64 a, .slice A1 n1 c1, .int .i64 x] w fun e w' => e = .returned (.bool true) ∧ Ext w w' := by
  have CL := hide (lines_any w)
  have C0 := hide (fun w : World => polys_any w)
  have CF := hide (fun w : World => fieldOf_any a w)
  have CO1 := hide (fun (P : Wm.Pr) (h9 : P.p ≤ 997) (m : Nat) (hm : m ≤ 40) (W : World) (E : Ext w W) => polyOf_ok P h9 A1 n1 c1 l1 m W (S1.1.keep E) S1.2.1 (by have := S1.2.2.2.1; omega) S1.2.2.2.2 hm)
  have hxb := Wm.emod_bound x (show (0 : Int) < 3 by omega)
  have CW := hide (fun w : World => within_any x 3 w (by omega) (by omega))
  obtain ⟨r, hr⟩ : ∃ r : Nat, (r : Int) = x % 3 := ⟨(x % 3).toNat, by omega⟩
  rw [← hr] at CW hxb
  clear S1 hr
  go_enter Try.func9, Try.ntmps9
  go_wp2_with fail
  refine (unhide CL).mono ?_
  rintro e w0 ⟨rfl, Fw0⟩
  go_wp2_with fail
  refine (unhide C0 _).mono ?_
  rintro e w1 ⟨rfl, Fw1⟩
  go_wp2_with fail
  refine (unhide CF _).mono ?_
  rintro e w2 ⟨⟨P, h9, rfl⟩, k2, rfl⟩
  by_cases h10 : 10 < P.p
  · have h10I : (10 : Int) < (P.p : Int) := by omega
    go_wp2_with fail
    refine (unhide CO1 P h9 10 (by omega) _ (by repeat (first | exact Ext.refl _ | assumption | refine Ext.alloc ?_ _ | refine Ext.drew ?_ | refine Ext.drewN ?_ _ | refine Ext.trans ?_ ‹Ext _ _›))).mono ?_
    rintro e w3 ⟨⟨vN, f, rfl, hN, lf, MN⟩, EN⟩
    have Fw3 : Ext w1 w3 := Ext.trans (by repeat (first | exact Ext.refl _ | assumption | refine Ext.alloc ?_ _ | refine Ext.drew ?_ | refine Ext.drewN ?_ _ | refine Ext.trans ?_ ‹Ext _ _›)) EN
    obtain ⟨Af, cf, rfl, Pf⟩ := MN.pv
    have BPf := MN.blk
    have Hf := hide hN
    clear MN EN hN
    obtain ⟨N, hN⟩ : ∃ N, N = f.length + r := ⟨_, rfl⟩
    have hNI : (f.length : Int) + (r : Int) = (N : Int) := by omega
    obtain ⟨m, hm⟩ : ∃ m, m = min N P.p := ⟨_, rfl⟩
    have hmf : f.length ≤ m := by omega
    have hm12 : m ≤ 12 := by omega
    have hmP : m ≤ P.p := by omega
    have CS := hide (fun (W : World) (E : Ext w3 W) => seen_ok P h9 Af _ cf f N m W (Pf.keep E) (unhide Hf).1 (by omega) (by omega) hm)
    clear hm hN
    go_wp2_with fail
    refine (unhide CW _).mono ?_
    rintro e w3' ⟨rfl, rfl⟩
    go_wp2_with fail
    refine (unhide CS _ (by repeat (first | exact Ext.refl _ | assumption | refine Ext.alloc ?_ _ | refine Ext.drew ?_ | refine Ext.drewN ?_ _ | refine Ext.trans ?_ ‹Ext _ _›))).mono ?_
    rintro e w4 ⟨⟨v, rfl, hown⟩, EN⟩
    have Fw4 : Ext w3' w4 := Ext.trans (by repeat (first | exact Ext.refl _ | assumption | refine Ext.alloc ?_ _ | refine Ext.drew ?_ | refine Ext.drewN ?_ _ | refine Ext.trans ?_ ‹Ext _ _›)) EN
    obtain ⟨B, cb, rfl, RB, hb1, hb2, -⟩ := row_of_own hown
    have CT := hide (Through_ok P h9 B m cb (ptsL P f m) w4 RB hb1 (by unfold maxLen at hb2; exact hb2) (ptsL_ok P f hm12 hmP))
    clear hown EN RB
    go_wp2_with fail
    refine (unhide CT).mono ?_
    rintro e w5 ⟨⟨G, v, hG, rfl, MN⟩, Fw5⟩
    have hU := ThruL.unique (ptsL_ok P f hm12 hmP) hG (ptsL_thru (unhide Hf) hmf)
    obtain ⟨Ag, cg, rfl, Pg⟩ := MN.pv
    have CE := hide (equal_pv Af Ag _ _ cf cg f G w5 (Pf.keep (show Ext w3' w5 from (by repeat (first | exact Ext.refl _ | assumption | refine Ext.alloc ?_ _ | refine Ext.drew ?_ | refine Ext.drewN ?_ _ | refine Ext.trans ?_ ‹Ext _ _›)))) Pg)
    rw [decide_eq_true hU.symm] at CE
    clear hU hG MN
    go_wp2_with fail
    refine (unhide CE).mono ?_
    rintro e w6 ⟨rfl, k6, rfl⟩
    go_wp2
    go_ret
    exact ⟨rfl, (by repeat (first | exact Ext.refl _ | assumption | refine Ext.alloc ?_ _ | refine Ext.drew ?_ | refine Ext.drewN ?_ _ | refine Ext.trans ?_ ‹Ext _ _›))⟩

  · have h10I : ¬ (10 : Int) < (P.p : Int) := by omega
    go_wp2_with fail
    refine (unhide CO1 P h9 P.p (by omega) _ (by repeat (first | exact Ext.refl _ | assumption | refine Ext.alloc ?_ _ | refine Ext.drew ?_ | refine Ext.drewN ?_ _ | refine Ext.trans ?_ ‹Ext _ _›))).mono ?_
    rintro e w3 ⟨⟨vN, f, rfl, hN, lf, MN⟩, EN⟩
    have Fw3 : Ext w1 w3 := Ext.trans (by repeat (first | exact Ext.refl _ | assumption | refine Ext.alloc ?_ _ | refine Ext.drew ?_ | refine Ext.drewN ?_ _ | refine Ext.trans ?_ ‹Ext _ _›)) EN
    obtain ⟨Af, cf, rfl, Pf⟩ := MN.pv
    have BPf := MN.blk
    have Hf := hide hN
    clear MN EN hN
    obtain ⟨N, hN⟩ : ∃ N, N = f.length + r := ⟨_, rfl⟩
    have hNI : (f.length : Int) + (r : Int) = (N : Int) := by omega
    obtain ⟨m, hm⟩ : ∃ m, m = min N P.p := ⟨_, rfl⟩
    have hmf : f.length ≤ m := by omega
    have hm12 : m ≤ 12 := by omega
    have hmP : m ≤ P.p := by omega
    have CS := hide (fun (W : World) (E : Ext w3 W) => seen_ok P h9 Af _ cf f N m W (Pf.keep E) (unhide Hf).1 (by omega) (by omega) hm)
    clear hm hN
    go_wp2_with fail
    refine (unhide CW _).mono ?_
    rintro e w3' ⟨rfl, rfl⟩
    go_wp2_with fail
    refine (unhide CS _ (by repeat (first | exact Ext.refl _ | assumption | refine Ext.alloc ?_ _ | refine Ext.drew ?_ | refine Ext.drewN ?_ _ | refine Ext.trans ?_ ‹Ext _ _›))).mono ?_
    rintro e w4 ⟨⟨v, rfl, hown⟩, EN⟩
    have Fw4 : Ext w3' w4 := Ext.trans (by repeat (first | exact Ext.refl _ | assumption | refine Ext.alloc ?_ _ | refine Ext.drew ?_ | refine Ext.drewN ?_ _ | refine Ext.trans ?_ ‹Ext _ _›)) EN
    obtain ⟨B, cb, rfl, RB, hb1, hb2, -⟩ := row_of_own hown
    have CT := hide (Through_ok P h9 B m cb (ptsL P f m) w4 RB hb1 (by unfold maxLen at hb2; exact hb2) (ptsL_ok P f hm12 hmP))
    clear hown EN RB
    go_wp2_with fail
    refine (unhide CT).mono ?_
    rintro e w5 ⟨⟨G, v, hG, rfl, MN⟩, Fw5⟩
    have hU := ThruL.unique (ptsL_ok P f hm12 hmP) hG (ptsL_thru (unhide Hf) hmf)
    obtain ⟨Ag, cg, rfl, Pg⟩ := MN.pv
    have CE := hide (equal_pv Af Ag _ _ cf cg f G w5 (Pf.keep (show Ext w3' w5 from (by repeat (first | exact Ext.refl _ | assumption | refine Ext.alloc ?_ _ | refine Ext.drew ?_ | refine Ext.drewN ?_ _ | refine Ext.trans ?_ ‹Ext _ _›)))) Pg)
    rw [decide_eq_true hU.symm] at CE
    clear hU hG MN
    go_wp2_with fail
    refine (unhide CE).mono ?_
    rintro e w6 ⟨rfl, k6, rfl⟩
    go_wp2
    go_ret
    exact ⟨rfl, (by repeat (first | exact Ext.refl _ | assumption | refine Ext.alloc ?_ _ | refine Ext.drew ?_ | refine Ext.drewN ?_ _ | refine Ext.trans ?_ ‹Ext _ _›))⟩

end Go.Proofs.Ytkfdimofkkckeaa

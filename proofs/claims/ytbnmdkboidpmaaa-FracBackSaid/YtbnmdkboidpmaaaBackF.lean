/-
  The walk of the law FracBack.
-/
import Derived.Test.YtbnmdkboidpmaaaFrac3
import Derived.Test.YtbnmdkboidpmaaaHead
set_option linter.unusedVariables false
set_option linter.unusedSimpArgs false
namespace Wm
theorem back_facts (p q : Nat) (hq : 0 < q) : 0 < Nat.gcd p q ∧ val (cf p q) = (p / Nat.gcd p q, q / Nat.gcd p q) ∧ Nat.gcd (p / Nat.gcd p q) (q / Nat.gcd p q) = 1 ∧ ((cf p q).length = 1 ∨ 2 ≤ (cf p q).getD ((cf p q).length - 1) 0) := by
  have g0 : 0 < Nat.gcd p q := Nat.gcd_pos_of_pos_right _ hq
  refine ⟨g0, val_cf q p hq, ?_, ?_⟩
  · have e1 := Nat.mul_div_cancel' (Nat.gcd_dvd_left p q)
    have e2 := Nat.mul_div_cancel' (Nat.gcd_dvd_right p q)
    have e3 := Nat.gcd_mul_left (Nat.gcd p q) (p / Nat.gcd p q) (q / Nat.gcd p q)
    rw [e1, e2] at e3
    exact Nat.eq_of_mul_eq_mul_left g0 (by omega)
  by_cases h : p % q = 0
  · left; rw [cf_pos hq, h, cf_zero]; rfl
  · right
    have h2 := cf_last q p hq h 0
    have hlen : 0 < (cf p q).length := by rw [cf_pos hq]; simp
    generalize cf p q = l at *
    rw [List.getD_eq_getElem?_getD, List.getElem?_eq_getElem (by omega)]
    rw [List.getLastD_eq_getLast?, List.getLast?_eq_getElem?, List.getElem?_eq_getElem (by omega)] at h2
    exact h2
end Wm
namespace Go.Proofs.Ytbnmdkboidpmaaa
open Go.RowKit Go.BigFrame

set_option maxRecDepth 100000 in
set_option maxHeartbeats 4000000 in
theorem fback_any (xp xq : Int) (w : World) :
    Calls Try.prog 11 #[.agg #[.int .i64 xp, .int .i64 xq]] w fun e w' => e = .returned (.bool true) ∧ Ext w w' := by
  have T0 := hide fracs_any
  cases hr : rightB xp xq with
  | false =>
    have CO := hide (fun w : World => Of_bad xp xq w hr)
    clear hr
    go_enter Try.func11, Try.ntmps11
    go_wp2_with fail
    refine (unhide T0 _).mono ?_
    rintro e w1 ⟨rfl, E1⟩
    have x0 := E1.keep (a := ⟨w.heap.size, 0, none⟩) (v := .int .i64 xp) (by simp [go_sem])
    have x1 := E1.keep (a := ⟨w.heap.size, 1, none⟩) (v := .int .i64 xq) (by simp [go_sem])
    go_wp2_with fail
    refine (unhide CO _).mono ?_
    rintro e w2 ⟨rfl, E2⟩
    go_wp2
    go_ret
    exact ⟨rfl, (((Ext.refl w).alloc _).trans E1).trans E2⟩
  | true =>
    unfold rightB at hr
    split at hr
    · rename_i hb
      obtain ⟨h1, h2, h3, h4⟩ := hb
      obtain ⟨p, rfl⟩ := Int.eq_ofNat_of_zero_le h3
      obtain ⟨q, rfl⟩ := Int.eq_ofNat_of_zero_le (show 0 ≤ xq by omega)
      have hp : p ≤ 1000000 := by omega
      have hq : q ≤ 1000000 := by omega
      have hq1 : 1 ≤ q := by omega
      obtain ⟨g0, hval, hg1, hlast⟩ := Wm.back_facts p q hq1
      have CO := hide (fun w : World => Of_ok p q w hp hq1 hq)
      have CV := hide (fun (w : World) (A : Option Addr) => of_value p q w A hp hq1 hq)
      have CG := hide (fun w : World => Gcd_ok (p : Int) (q : Int) w (by omega) (by omega))
      rw [show Int.gcd (p : Int) (q : Int) = Nat.gcd p q from rfl] at CG
      have hya : p / Nat.gcd p q ≤ 1000000 := Nat.le_trans (Nat.div_le_self _ _) hp
      have hyb : q / Nat.gcd p q ≤ 1000000 := Nat.le_trans (Nat.div_le_self _ _) hq
      have CH := hide (fun w : World => Gcd_ok ((p / Nat.gcd p q : Nat) : Int) ((q / Nat.gcd p q : Nat) : Int) w (by generalize p / Nat.gcd p q = z at *; omega) (by generalize q / Nat.gcd p q = z at *; omega))
      rw [show Int.gcd ((p / Nat.gcd p q : Nat) : Int) ((q / Nat.gcd p q : Nat) : Int) = Nat.gcd (p / Nat.gcd p q) (q / Nat.gcd p q) from rfl, hg1] at CH
      have hda : (p : Int) / ((Nat.gcd p q : Nat) : Int) = ((p / Nat.gcd p q : Nat) : Int) := rfl
      have hdb : (q : Int) / ((Nat.gcd p q : Nat) : Int) = ((q / Nat.gcd p q : Nat) : Int) := rfl
      have hda2 : (p : Int).tdiv ((Nat.gcd p q : Nat) : Int) = ((p / Nat.gcd p q : Nat) : Int) := rfl
      have hdb2 : (q : Int).tdiv ((Nat.gcd p q : Nat) : Int) = ((q / Nat.gcd p q : Nat) : Int) := rfl
      have hle : Nat.gcd p q ≤ 1000000 := Nat.le_trans (Nat.le_of_dvd hq1 (Nat.gcd_dvd_right p q)) hq
      have hln := Wm.cf_length q p
      have hl1 : 1 ≤ (Wm.cf p q).length := by rw [Wm.cf_pos hq1]; simp
      unfold OfPost at CO
      generalize Wm.cf p q = l at *
      generalize p / Nat.gcd p q = a at *
      generalize q / Nat.gcd p q = b at *
      generalize Nat.gcd p q = g at *
      have HV := hide hval
      have HL := hide hlast
      clear h1 h2 h3 h4 hr hval hlast hg1
      go_enter Try.func11, Try.ntmps11
      go_wp2_with fail
      refine (unhide T0 _).mono ?_
      rintro e w1 ⟨rfl, E1⟩
      have x0 := E1.keep (a := ⟨w.heap.size, 0, none⟩) (v := .int .i64 p) (by simp [go_sem])
      have x1 := E1.keep (a := ⟨w.heap.size, 1, none⟩) (v := .int .i64 q) (by simp [go_sem])
      have F1 := ((Ext.refl w).alloc (.cells #[.int .i64 p, .int .i64 q] 38)).trans E1
      go_wp2_with fail
      refine (unhide CO _).mono ?_
      rintro e w2 ⟨⟨A, rfl, hrow⟩, E2⟩
      have x0 := E2.keep x0
      have x1 := E2.keep x1
      have F2 := F1.trans E2
      obtain ⟨bk, o, rfl, hcv⟩ := unhide CV w2 A hrow
      have C3 := hcv w2 (Ext.refl w2) l.length l.length hl1 (Nat.le_refl _)
      rw [List.take_length, unhide HV] at C3
      have C3' := hide C3
      have HR := hide hrow
      clear hcv C3 CV CO hrow
      go_wp2_with fail
      refine (unhide C3').mono ?_
      rintro e w3 ⟨rfl, E3⟩
      have x0 := E3.keep x0
      have x1 := E3.keep x1
      have F3 := F2.trans E3
      have x0' := ((Ext.refl w3).alloc (.cells #[.int .i64 a, .int .i64 b] 38)).keep x0
      have x1' := ((Ext.refl w3).alloc (.cells #[.int .i64 a, .int .i64 b] 38)).keep x1
      go_wp2_with fail
      refine (unhide CG _).mono ?_
      rintro e w4 ⟨rfl, n4, rfl⟩
      have F4 : Ext w3 ((w3.alloc (.cells #[.int .i64 a, .int .i64 b] 38)).drewN n4) := ((Ext.refl w3).alloc _).drewN _
      have x0 := F4.keep x0
      have x1 := F4.keep x1
      have y0 : ((w3.alloc (.cells #[.int .i64 a, .int .i64 b] 38)).drewN n4).cell? ⟨w3.heap.size, 0, none⟩ = some (.int .i64 a) := by simp [go_sem]
      have y1 : ((w3.alloc (.cells #[.int .i64 a, .int .i64 b] 38)).drewN n4).cell? ⟨w3.heap.size, 1, none⟩ = some (.int .i64 b) := by simp [go_sem]
      have FF := (F3.trans F4)
      have HR := hide ((unhide HR).keep (E3.trans F4))
      generalize (w3.alloc (.cells #[.int .i64 a, .int .i64 b] 38)).drewN n4 = W4 at *
      generalize w3.heap.size = Y at *
      clear F1 F2 F3 F4 E1 E2 E3
      go_wp2_with fail
      refine (unhide CH _).mono ?_
      rintro e w5 ⟨rfl, n5, rfl⟩
      have F5 : Ext W4 (W4.drewN n5) := (Ext.refl W4).drewN _
      have x0 := F5.keep x0
      have x1 := F5.keep x1
      have y0 := F5.keep y0
      have y1 := F5.keep y1
      have FF := FF.trans F5
      have HR := hide ((unhide HR).keep F5)
      generalize W4.drewN n5 = W5 at *
      clear F5
      have hgI : decide ((0 : Int) < (g : Int)) = true := decide_eq_true (by omega)
      have hgI2 : (0 : Int) < (g : Int) := by omega
      have hg0 : ¬ (g : Int) = 0 := by omega
      have hg0B : ((g : Int) == 0) = false := by rw [beq_eq_false_iff_ne]; exact hg0
      have hgN : ¬ g = 0 := by omega
      have haa : ((a : Int) == (a : Int)) = true := by simp
      have hbb : ((b : Int) == (b : Int)) = true := by simp
      have z0 := ((Ext.refl W5).alloc (.cells #[.int .i64 0, .int .i64 0, .int .i64 0] 22)).keep x0
      have z1 := ((Ext.refl W5).alloc (.cells #[.int .i64 0, .int .i64 0, .int .i64 0] 22)).keep x1
      have v0 := ((Ext.refl W5).alloc (.cells #[.int .i64 0, .int .i64 0, .int .i64 0] 22)).keep y0
      have v1 := ((Ext.refl W5).alloc (.cells #[.int .i64 0, .int .i64 0, .int .i64 0] 22)).keep y1
      clear x0 x1 y0 y1
      by_cases hn : l.length = 1
      · have hnB : ((l.length : Int) == 1) = true := by rw [beq_iff_eq]; omega
        go_upto_region 9 with fail
        refine wp_region_head 5 (fun _ _ d _ _ h => by cases d <;> exact h) (by kernel_rfl) (by kernel_rfl) ?_
        show wpList _ _ _ (_ :: _ :: _ :: _ :: _ :: []) _ _
        go_wp2_with (go_at_call 17; refine (good_made' [0, 0, 0] _ _ _ _ W5.drew rfl rfl (by decide) (by simp)).mono ?_; rintro e wg ⟨rfl, rfl⟩)
        show wpQuiet _ _ _ _ (_ :: _ :: _ :: _ :: _ :: _ :: _ :: _ :: _ :: _ :: _ :: _ :: _ :: _ :: _ :: _ :: _ :: _ :: _ :: _ :: _ :: _ :: _ :: _ :: _ :: _ :: _ :: _ :: _ :: _ :: _ :: _ :: _ :: _ :: _ :: _ :: _ :: _ :: _ :: _ :: _ :: []) _
        repeat (go_big_quiet_step (fail))
        refine wpQuiet_nil ?_
        intro _ hw'
        obtain ⟨nq, hw''⟩ := hw'
        subst hw''
        go_wp2
        go_ret
        exact ⟨rfl, FF.trans ((((Ext.refl W5).drew).alloc _).drewN _)⟩
      · have hnB : ((l.length : Int) == 1) = false := by rw [beq_eq_false_iff_ne]; omega
        have hlast := (unhide HL).resolve_left hn
        obtain ⟨m, hm⟩ : ∃ m, m = l.length - 1 := ⟨_, rfl⟩
        obtain ⟨bk', o', e', hb', hc'⟩ := ((unhide HR).alloc (.cells #[.int .i64 0, .int .i64 0, .int .i64 0] 22)).nat (k := m) (by omega)
        injection e' with e'
        injection e' with e1 e2
        subst e1; subst e2
        rw [← hm] at hlast
        have hw : IntKind.i64.wrap ((l.length : Int) - 1) = (m : Int) := (IntWalk.i64_in _ (by omega)).trans (by omega)
        have hm0 : (0 : Int) ≤ (m : Int) := by omega
        have hmN : (m : Int) < (l.length : Int) := by omega
        have h1l : decide ((1 : Int) < ((l.getD m 0 : Nat) : Int)) = true := decide_eq_true (by omega)
        generalize l.getD m 0 = la at *
        clear HR hm hlast
        go_upto_region 9 with fail
        refine wp_region_head 5 (fun _ _ d _ _ h => by cases d <;> exact h) (by kernel_rfl) (by kernel_rfl) ?_
        show wpList _ _ _ (_ :: _ :: _ :: _ :: _ :: []) _ _
        go_wp2_with (go_at_call 17; refine (good_made' [0, 0, 0] _ _ _ _ W5.drew rfl rfl (by decide) (by simp)).mono ?_; rintro e wg ⟨rfl, rfl⟩)
        show wpQuiet _ _ _ _ (_ :: _ :: _ :: _ :: _ :: _ :: _ :: _ :: _ :: _ :: _ :: _ :: _ :: _ :: _ :: _ :: _ :: _ :: _ :: _ :: _ :: _ :: _ :: _ :: _ :: _ :: _ :: _ :: _ :: _ :: _ :: _ :: _ :: _ :: _ :: _ :: _ :: _ :: _ :: _ :: _ :: []) _
        repeat (go_big_quiet_step (fail))
        refine wpQuiet_nil ?_
        intro _ hw'
        obtain ⟨nq, hw''⟩ := hw'
        subst hw''
        go_wp2
        go_ret
        exact ⟨rfl, FF.trans ((((Ext.refl W5).drew).alloc _).drewN _)⟩
    · cases hr
end Go.Proofs.Ytbnmdkboidpmaaa

/-
  The contract of points.At, and of Through where it tells an error.
-/
import Derived.Test.YtojjcdbphmcmeaaPts2
set_option linter.unusedVariables false
set_option linter.unusedSimpArgs false
namespace Go.Proofs.Ytojjcdbphmcmeaa
open Go.RowKit Go.BigFrame

theorem Through_bad (p : Int) (A : Option Addr) (n c : Nat) (L : List (Int × Int)) (w : World) (R : Row w A n 2 (prs L)) (hnc : n ≤ c) (hcap : c ≤ 9223372036854775807) (r : Int) (hr : errPts p L = r) (h : r ≠ 0) :
    Calls Try.prog 65 #[.int .i64 p, .slice A n c] w fun e w' => e = .returned (.tuple #[.slice none 0 0, .int .i64 r]) ∧ Ext w w' := by
  have CK := hide (PCheck_any p A n c L w R hnc hcap)
  rw [hr] at CK
  have hrI : (r != 0) = true := by rw [bne_iff_ne]; exact h
  clear R hr
  go_enter Try.func65, Try.ntmps65
  go_wp2_with fail
  refine (unhide CK).mono ?_
  rintro e w1 ⟨rfl, E1⟩
  go_wp2
  go_ret2
  exact ⟨rfl, (by repeat (first | exact E1 | refine Ext.alloc ?_ _ | refine Ext.drew ?_ | refine Ext.drewN ?_ _ | (refine Ext.trans ?_ (plus_ext _ _)) | (refine Ext.setCell ?_ (by have := Ext.size E1; simp; omega) _)))⟩

set_option maxRecDepth 100000 in
set_option maxHeartbeats 1000000 in
theorem PAt_ok (P : Wm.Pr) (h9 : P.p ≤ 997) (A : Option Addr) (n c : Nat) (L : List (Int × Int)) (x : Int) (w : World) (R : Row w A n 2 (prs L)) (hnc : n ≤ c) (hcap : c ≤ 9223372036854775807) (h : PtsOk P L) (F : List Nat) (hF : ThruL P L F) (xr : Nat) (hxr : x % (P.p : Int) = (xr : Int)) :
    Calls Try.prog 50 #[.int .i64 P.p, .slice A n c, .int .i64 x] w fun e w' => e = .returned (.tuple #[.int .i64 ((Wm.evN P.p F xr : Nat) : Int), .int .i64 0]) ∧ Ext w w' := by
  have CT := hide (Through_ok P h9 A n c L w R hnc hcap h)
  have HU := hide (fun G (b : ThruL P L G) => ThruL.unique h b hF)
  have hl := hF.len
  have hl12 := h.len
  have HI := hide hF.isP
  clear R h
  go_enter Try.func50, Try.ntmps50
  go_wp2_with fail
  refine (unhide CT).mono ?_
  rintro e w1 ⟨⟨G, v, hG, rfl, M⟩, E1⟩
  obtain rfl := unhide HU G hG
  obtain ⟨A1, c1, rfl, P1⟩ := M.pv
  have B1 := M.blk
  have CA := hide (fun (W : World) (E : Ext w1 W) => At_ok P h9 A1 _ c1 G x W (P1.keep E) (B1.keep E) (unhide HI) (by omega) xr hxr)
  clear M hG hF P1 B1 HU CT
  go_wp2_with fail
  refine (unhide CA _ (by repeat (first | exact Ext.refl _ | refine Ext.alloc ?_ _ | refine Ext.drew ?_ | refine Ext.drewN ?_ _ | (refine Ext.trans ?_ (plus_ext _ _)) | (refine Ext.setCell ?_ (by have := Ext.size Ext.refl _; simp; omega) _)))).mono ?_
  rintro e w2 ⟨rfl, E2⟩
  have E3 : Ext w w2 := Ext.trans (by repeat (first | exact E1 | refine Ext.alloc ?_ _ | refine Ext.drew ?_ | refine Ext.drewN ?_ _ | (refine Ext.trans ?_ (plus_ext _ _)) | (refine Ext.setCell ?_ (by have := Ext.size E1; simp; omega) _))) E2
  go_wp2
  go_ret2
  exact ⟨rfl, (by repeat (first | exact E3 | refine Ext.alloc ?_ _ | refine Ext.drew ?_ | refine Ext.drewN ?_ _ | (refine Ext.trans ?_ (plus_ext _ _)) | (refine Ext.setCell ?_ (by have := Ext.size E3; simp; omega) _)))⟩
theorem PAt_bad (p : Int) (A : Option Addr) (n c : Nat) (L : List (Int × Int)) (x : Int) (w : World) (R : Row w A n 2 (prs L)) (hnc : n ≤ c) (hcap : c ≤ 9223372036854775807) (r : Int) (hr : errPts p L = r) (h : r ≠ 0) :
    Calls Try.prog 50 #[.int .i64 p, .slice A n c, .int .i64 x] w fun e w' => e = .returned (.tuple #[.int .i64 0, .int .i64 r]) ∧ Ext w w' := by
  have CT := hide (Through_bad p A n c L w R hnc hcap r hr h)
  have hrI : (r != 0) = true := by rw [bne_iff_ne]; exact h
  clear R hr
  go_enter Try.func50, Try.ntmps50
  go_wp2_with fail
  refine (unhide CT).mono ?_
  rintro e w1 ⟨rfl, E1⟩
  go_wp2
  go_ret2
  exact ⟨rfl, (by repeat (first | exact E1 | refine Ext.alloc ?_ _ | refine Ext.drew ?_ | refine Ext.drewN ?_ _ | (refine Ext.trans ?_ (plus_ext _ _)) | (refine Ext.setCell ?_ (by have := Ext.size E1; simp; omega) _)))⟩
end Go.Proofs.Ytojjcdbphmcmeaa

/-
  The walk of the law CyclicSums.
-/
import Derived.Test.YtekkghhihnnpjaaDoorCycW
set_option linter.unusedVariables false
set_option linter.unusedSimpArgs false
namespace Wm
theorem fx_sh (f b : Nat → Bool) {n j : Nat} (h : j < n) : fx f (sh 0 n b) j = fx f b j := by
  have : decide (0 ≤ j ∧ j < 0 + n) = true := decide_eq_true (by omega)
  simp only [fx, sh, this, Bool.true_and, Nat.sub_zero]
end Wm
namespace Go.Proofs.YtekkghhihnnpjaaDoor
open Go.RowKit Go.BigFrame
set_option maxRecDepth 100000 in
set_option maxHeartbeats 20000000 in
theorem csums_law (A1 : Option Addr) (n1 c1 : Nat) (l1 : List Nat) (A2 : Option Addr) (n2 c2 : Nat) (l2 : List Nat) (A3 : Option Addr) (n3 c3 : Nat) (l3 : List Nat) (w : World) (S1 : SliceIn w A1 n1 c1 1 1 (nats .u8 l1)) (h8 : ∀ x ∈ l1, x < 256) (S2 : SliceIn w A2 n2 c2 1 1 (nats .u8 l2)) (h82 : ∀ x ∈ l2, x < 256) (S3 : SliceIn w A3 n3 c3 1 1 (nats .u8 l3)) (h83 : ∀ x ∈ l3, x < 256) :
    Calls Tryd.prog 4 #[.slice A1 n1 c1, .slice A2 n2 c2, .slice A3 n3 c3] w fun e w' => e = .returned (.bool true) ∧ Ext w w' := by
  obtain ⟨N, hN⟩ : ∃ N, N = min (min n1 n2) 200 := ⟨_, rfl⟩
  obtain ⟨k, hk⟩ : ∃ k, k = min n3 15 := ⟨_, rfl⟩
  obtain ⟨m, hm⟩ : ∃ m, m = k + 1 := ⟨_, rfl⟩
  have hcb1 := S1.2.2.1
  have hcb2 := S2.2.2.1
  have hcb3 := S3.2.2.1
  have hmin : min (min (n1 : Int) (n2 : Int)) 200 = (N : Int) := by omega
  have hmin2 : min (n1 : Int) (min (n2 : Int) 200) = (N : Int) := by omega
  have CY := hide (fun w => cyclics_ok w)
  have CB1 := hide (fun (W : World) (E : Ext w W) => bitsOf_ok A1 n1 c1 l1 h8 N N (by omega) (by omega) S1.2.1 (by omega) W (S1.1.keep E) S1.2.2.2.2)
  have CB2 := hide (fun (W : World) (E : Ext w W) => bitsOf_ok A2 n2 c2 l2 h82 N N (by omega) (by omega) S2.2.1 (by omega) W (S2.1.keep E) S2.2.2.2.2)
  have CO := hide (fun (W : World) (E : Ext w W) => byOf_ok A3 n3 c3 l3 h83 k hk S3.2.1 (by omega) W (S3.1.keep E) S3.2.2.2.2)
  rw [← hm] at CO
  obtain ⟨G, hG⟩ : ∃ G, G = byG l3 k := ⟨_, rfl⟩
  have g0 : G 0 = true := by rw [hG]; exact byG_zero _ _
  have gm : G m = true := by rw [hG, hm]; exact byG_top _ _
  have gf : ∀ j, m < j → G j = false := by rw [hG, hm]; exact byG_far _ _
  rw [← hG] at CO
  obtain ⟨f, hf⟩ : ∃ f, f = odd l1 := ⟨_, rfl⟩
  obtain ⟨h, hh⟩ : ∃ h, h = odd l2 := ⟨_, rfl⟩
  rw [← hf] at CB1
  rw [← hh] at CB2
  have CP1 := hide (fun w => Put_ok f G N m (by omega) (by omega) (by omega) g0 gm gf w)
  have CP2 := hide (fun w => Put_ok h G N m (by omega) (by omega) (by omega) g0 gm gf w)
  have CP3 := hide (fun w => Put_ok (Wm.fx f (Wm.sh 0 N h)) G N m (by omega) (by omega) (by omega) g0 gm gf w)
  have CT1 := hide (fun w => turn_bits f h N 0 N (by omega) (by omega) w)
  have CT2 := hide (fun w => turn_bits (Wm.putF G N f) (Wm.putF G N h) (N + m) 0 (N + m) (by omega) (by omega) w)
  have e3 : bsF (Wm.putF G N (Wm.fx f (Wm.sh 0 N h))) (N + m) = bsF (Wm.fx (Wm.putF G N f) (Wm.sh 0 (N + m) (Wm.putF G N h))) (N + m) := bsF_congr fun j hj => by
    rw [Wm.fx_sh _ _ hj, ← Wm.putF_fx, Wm.putF_congr (h := Wm.fx f h) fun j hj => Wm.fx_sh _ _ hj]
  rw [← e3] at CT2
  obtain ⟨s1, hs1⟩ : ∃ s, s = bsF f N := ⟨_, rfl⟩
  obtain ⟨s2, hs2⟩ : ∃ s, s = bsF h N := ⟨_, rfl⟩
  obtain ⟨s3, hs3⟩ : ∃ s, s = bsF (Wm.fx f (Wm.sh 0 N h)) N := ⟨_, rfl⟩
  obtain ⟨t, ht⟩ : ∃ t, t = bsF G (m + 1) := ⟨_, rfl⟩
  obtain ⟨p1, hp1⟩ : ∃ p, p = bsF (Wm.putF G N f) (N + m) := ⟨_, rfl⟩
  obtain ⟨p2, hp2⟩ : ∃ p, p = bsF (Wm.putF G N h) (N + m) := ⟨_, rfl⟩
  obtain ⟨p3, hp3⟩ : ∃ p, p = bsF (Wm.putF G N (Wm.fx f (Wm.sh 0 N h))) (N + m) := ⟨_, rfl⟩
  have hz1 : p1.size = N + m := by rw [hp1]; exact bsF_size _ _
  have hz2 : p2.size = N + m := by rw [hp2]; exact bsF_size _ _
  have hzz : (p1.size : Int) = (p2.size : Int) := by omega
  rw [← hs1] at CB1 CP1 CT1
  rw [← hs2] at CB2 CP2 CT1
  rw [← hs3] at CP3 CT1
  rw [← ht] at CO CP1 CP2 CP3
  rw [← hp1] at CP1 CT2
  rw [← hp2] at CP2 CT2
  rw [← hp3] at CP3 CT2
  clear hs1 hs2 hs3 ht hp1 hp2 hp3 hz1 hz2 hf hh hG g0 gm gf hN hk hm hcb1 hcb2 hcb3 S1 S2 S3 e3
  go_enter Tryd.func4, Tryd.ntmps4
  go_wp2_with fail
  refine (unhide CY _).mono ?_
  rintro e w1 ⟨rfl, E1⟩
  go_wp2_with fail
  all_goals
    first
    | (have hx : (n1 : Int) = (N : Int) := by omega
       rw [hx])
    | (have hx : (n2 : Int) = (N : Int) := by omega
       rw [hx])
    | (have hx : N = 200 := by omega
       subst hx)
    refine (unhide CB1 _ E1).mono ?_
    rintro e w2 ⟨rfl, E2⟩
    have F2 := E1.trans E2
    go_wp2_with fail
    refine (unhide CB2 _ F2).mono ?_
    rintro e w3 ⟨rfl, E3⟩
    have F3 := F2.trans E3
    go_wp2_with fail
    refine (unhide CO _ F3).mono ?_
    rintro e w4 ⟨rfl, E4⟩
    have F4 := F3.trans E4
    go_wp2_with fail
    refine (unhide CP1 _).mono ?_
    rintro e w5 ⟨rfl, E5⟩
    have F5 := F4.trans E5
    go_wp2_with fail
    refine (unhide CP2 _).mono ?_
    rintro e w6 ⟨rfl, E6⟩
    have F6 := F5.trans E6
    go_wp2_with fail
    refine (unhide CT1 _).mono ?_
    rintro e w7 ⟨rfl, E7⟩
    have F7 := F6.trans E7
    go_wp2_with fail
    refine (unhide CP3 _).mono ?_
    rintro e w8 ⟨rfl, E8⟩
    have HF := hide (F7.trans E8)
    clear E1 E2 E3 E4 E5 E6 E7 E8 F2 F3 F4 F5 F6 F7 CY CB1 CB2 CO CP1 CP2 CP3 CT1
    go_wp2_with (go_at_call 17; refine (good_made' [0, 0, 0] _ _ _ _ _ rfl rfl (by decide) (by simp)).mono ?_; rintro e wg ⟨rfl, rfl⟩)
    refine (unhide CT2 _).mono ?_
    rintro e w9 ⟨rfl, E9⟩
    have HF9 := hide ((unhide HF).trans (Ext.trans (by repeat (first | exact Ext.refl _ | assumption | refine Ext.alloc ?_ _ | refine Ext.drew ?_ | refine Ext.drewN ?_ _ | refine Ext.trans ?_ ‹Ext _ _›)) E9))
    clear HF E9 CT2
    go_wp2
    go_ret
    exact ⟨rfl, unhide HF9⟩
end Go.Proofs.YtekkghhihnnpjaaDoor

/-
  The walks of the laws CyclicBack, CyclicOdd, CyclicBurst, CyclicSums.
-/
import Derived.Test.YtekkghhihnnpjaaDoorCyc6
import Derived.Test.YtekkghhihnnpjaaDoorArith1
set_option linter.unusedVariables false
set_option linter.unusedSimpArgs false
namespace Wm
theorem putF_low {G : Nat → Bool} {N : Nat} {f : Nat → Bool} {j : Nat} (h : j < N) : putF G N f j = f j := if_pos h
theorem putF_congr {G : Nat → Bool} {N : Nat} {f h : Nat → Bool} (e : ∀ j, j < N → f j = h j) : putF G N f = putF G N h := by
  have h1 : (fun k => if k < N then f k else false) = (fun k => if k < N then h k else false) := by
    funext k; by_cases c : k < N
    · rw [if_pos c, if_pos c, e k c]
    · rw [if_neg c, if_neg c]
  funext j
  show (if j < N then f j else rn G N (fun k => if k < N then f k else false) j) = if j < N then h j else rn G N (fun k => if k < N then h k else false) j
  rw [h1]
  by_cases c : j < N
  · rw [if_pos c, if_pos c, e j c]
  · rw [if_neg c, if_neg c]
/-- What remains of what is put, with bits turned, remains of the bits. -/
theorem rn_turn {G : Nat → Bool} (h0 : G 0 = true) (N : Nat) (f b : Nat → Bool) : rn G N (fx (putF G N f) b) = rn G N b := by
  rw [rn_fx]
  funext j
  show (rn G N (putF G N f) j).xor _ = _
  rw [rn_put h0]; simp
theorem par_put {G : Nat → Bool} {m : Nat} (h0 : G 0 = true) (hG : ∀ k, m < k → G k = false) (he : par G (m + 1) = false) (N : Nat) (f : Nat → Bool) : par (putF G N f) (N + m) = false := by
  rw [← par_rn hG he (putF G N f) N (Nat.le_refl _)]
  exact par_none _ fun j _ => rn_put h0 N f j
theorem par_sh (b : Nat → Bool) {L n : Nat} (hL : L ≤ n) : par (sh 0 L b) n = par b L := by
  obtain ⟨d, rfl⟩ := Nat.exists_eq_add_of_le hL
  rw [par_more (a := L) (fun k hk => by
    have : decide (0 ≤ k ∧ k < 0 + L) = false := decide_eq_false (by omega)
    simp only [sh, this, Bool.false_and])]
  exact par_congr L fun j hj => by
    have : decide (0 ≤ j ∧ j < 0 + L) = true := decide_eq_true (by omega)
    simp only [sh, this, Bool.true_and, Nat.sub_zero]
end Wm
namespace Go.Proofs.YtekkghhihnnpjaaDoor
open Go.RowKit Go.BigFrame
theorem prefix_bits {f h : Nat → Bool} {N m : Nat} (e : ∀ j, j < N → h j = f j) : Lib.hasPrefix (bsF h (N + m)).data.toList (bsF f N).data.toList = true := by
  unfold Lib.hasPrefix
  rw [List.isPrefixOf_iff_prefix, bsF_data, bsF_data, List.range_add, List.map_append]
  refine ⟨((List.range m).map fun x => N + x).map fun j => if h j then (49 : UInt8) else 48, ?_⟩
  congr 1
  exact List.map_congr_left fun j hj => by rw [e j (List.mem_range.1 hj)]

set_option maxRecDepth 100000 in
set_option maxHeartbeats 4000000 in
theorem cback_law (A1 : Option Addr) (n1 c1 : Nat) (l1 : List Nat) (A2 : Option Addr) (n2 c2 : Nat) (l2 : List Nat) (w : World) (S1 : SliceIn w A1 n1 c1 1 1 (nats .u8 l1)) (h8 : ∀ x ∈ l1, x < 256) (S2 : SliceIn w A2 n2 c2 1 1 (nats .u8 l2)) (h82 : ∀ x ∈ l2, x < 256) :
    Calls Tryd.prog 6 #[.slice A1 n1 c1, .slice A2 n2 c2] w fun e w' => e = .returned (.bool true) ∧ Ext w w' := by
  obtain ⟨N, hN⟩ : ∃ N, N = min n1 200 := ⟨_, rfl⟩
  obtain ⟨k, hk⟩ : ∃ k, k = min n2 15 := ⟨_, rfl⟩
  obtain ⟨m, hm⟩ : ∃ m, m = k + 1 := ⟨_, rfl⟩
  have hcb1 := S1.2.2.1
  have hcb2 := S2.2.2.1
  have CY := hide (fun w => cyclics_ok w)
  have CB := hide (fun (W : World) (E : Ext w W) => bitsOf_ok A1 n1 c1 l1 h8 200 N hN (by omega) S1.2.1 (by omega) W (S1.1.keep E) S1.2.2.2.2)
  have CO := hide (fun (W : World) (E : Ext w W) => byOf_ok A2 n2 c2 l2 h82 k hk S2.2.1 (by omega) W (S2.1.keep E) S2.2.2.2.2)
  rw [← hm] at CO
  obtain ⟨G, hG⟩ : ∃ G, G = byG l2 k := ⟨_, rfl⟩
  have g0 : G 0 = true := by rw [hG]; exact byG_zero _ _
  have gm : G m = true := by rw [hG, hm]; exact byG_top _ _
  have gf : ∀ j, m < j → G j = false := by rw [hG, hm]; exact byG_far _ _
  rw [← hG] at CO
  obtain ⟨f, hf⟩ : ∃ f, f = odd l1 := ⟨_, rfl⟩
  rw [← hf] at CB
  have CP := hide (fun w => Put_ok f G N m (by omega) (by omega) (by omega) g0 gm gf w)
  have CG := hide (fun w => Get_ok (Wm.putF G N f) G N m (by omega) (by omega) (by omega) g0 gm gf w)
  have hgv : getV (Wm.putF G N f) G N m = .tuple #[.string (bsF f N), .int .i64 0] := by
    unfold getV
    rw [anyB_no fun j _ => Wm.rn_put g0 N f _, if_neg (by simp), bsF_congr fun j hj => Wm.putF_low hj]
  rw [hgv] at CG
  have CH := hide (fun w => Tryd.strings_HasPrefix (bsF (Wm.putF G N f) (N + m)) (bsF f N) w)
  rw [prefix_bits fun j hj => Wm.putF_low hj] at CH
  obtain ⟨s, hs⟩ : ∃ s, s = bsF f N := ⟨_, rfl⟩
  obtain ⟨t, ht⟩ : ∃ t, t = bsF G (m + 1) := ⟨_, rfl⟩
  obtain ⟨p, hp⟩ : ∃ p, p = bsF (Wm.putF G N f) (N + m) := ⟨_, rfl⟩
  have hsz : s.size = N := by rw [hs]; exact bsF_size _ _
  have htz : t.size = m + 1 := by rw [ht]; exact bsF_size _ _
  have hpz : p.size = N + m := by rw [hp]; exact bsF_size _ _
  rw [← hs] at CB CP CG CH
  rw [← ht] at CO CP CG
  rw [← hp] at CP CG CH
  have hpI : (p.size : Int) = (s.size : Int) + (t.size : Int) - 1 := by omega
  have hsI : (s.size : Int) ≤ 200 := by omega
  have htI : (t.size : Int) ≤ 17 := by omega
  clear hs ht hp hsz htz hpz hf hG g0 gm gf hgv hN hk hm hcb1 hcb2 S1 S2
  go_enter Tryd.func6, Tryd.ntmps6
  go_wp2_with fail
  refine (unhide CY _).mono ?_
  rintro e w1 ⟨rfl, E1⟩
  go_wp2_with fail
  refine (unhide CB _ E1).mono ?_
  rintro e w2 ⟨rfl, E2⟩
  have F2 := E1.trans E2
  go_wp2_with fail
  refine (unhide CO _ F2).mono ?_
  rintro e w3 ⟨rfl, E3⟩
  have F3 := F2.trans E3
  go_wp2_with fail
  refine (unhide CP _).mono ?_
  rintro e w4 ⟨rfl, E4⟩
  have F4 := F3.trans E4
  go_wp2_with fail
  refine (unhide CG _).mono ?_
  rintro e w5 ⟨rfl, E5⟩
  have F5 := F4.trans E5
  have HF := hide F5
  clear E1 E2 E3 E4 E5 F2 F3 F4 F5 CY CB CO CP CG
  go_wp2_with (go_at_call 17; refine (good_made' [0, 0] _ _ _ _ _ rfl rfl (by decide) (by simp)).mono ?_; rintro e wg ⟨rfl, rfl⟩)
  refine (unhide CH _).mono ?_
  rintro e w6 ⟨rfl, rfl⟩
  have HF6 := hide ((unhide HF).trans (show Ext w5 _ from (by repeat (first | exact Ext.refl _ | assumption | refine Ext.alloc ?_ _ | refine Ext.drew ?_ | refine Ext.drewN ?_ _ | refine Ext.trans ?_ ‹Ext _ _›))))
  go_wp2
  go_ret
  exact ⟨rfl, (unhide HF).trans (by repeat (first | exact Ext.refl _ | assumption | refine Ext.alloc ?_ _ | refine Ext.drew ?_ | refine Ext.drewN ?_ _ | refine Ext.trans ?_ ‹Ext _ _›))⟩
end Go.Proofs.YtekkghhihnnpjaaDoor

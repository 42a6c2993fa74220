/-
  The walk of the law CyclicBurst.
-/
import Derived.Test.YtekkghhihnnpjaaDoorCycW
set_option linter.unusedVariables false
set_option linter.unusedSimpArgs false
namespace Go.Proofs.YtekkghhihnnpjaaDoor
open Go.RowKit Go.BigFrame
set_option maxRecDepth 100000 in
set_option maxHeartbeats 4000000 in
theorem cburst_law (A1 : Option Addr) (n1 c1 : Nat) (l1 : List Nat) (A2 : Option Addr) (n2 c2 : Nat) (l2 : List Nat) (A3 : Option Addr) (n3 c3 : Nat) (l3 : List Nat) (I0 : Int) (w : World) (S1 : SliceIn w A1 n1 c1 1 1 (nats .u8 l1)) (h8 : ∀ x ∈ l1, x < 256) (S2 : SliceIn w A2 n2 c2 1 1 (nats .u8 l2)) (h82 : ∀ x ∈ l2, x < 256) (S3 : SliceIn w A3 n3 c3 1 1 (nats .u8 l3)) (h83 : ∀ x ∈ l3, x < 256) :
    Calls Tryd.prog 5 #[.slice A1 n1 c1, .slice A2 n2 c2, .slice A3 n3 c3, .int .i64 I0] w fun e w' => e = .returned (.bool true) ∧ Ext w w' := by
  obtain ⟨N, hN⟩ : ∃ N, N = min n1 200 := ⟨_, rfl⟩
  obtain ⟨k, hk⟩ : ∃ k, k = min n2 15 := ⟨_, rfl⟩
  obtain ⟨m, hm⟩ : ∃ m, m = k + 1 := ⟨_, rfl⟩
  have hcb1 := S1.2.2.1
  have hcb2 := S2.2.2.1
  have hcb3 := S3.2.2.1
  have CY := hide (fun w => cyclics_ok w)
  have CB := hide (fun (W : World) (E : Ext w W) => bitsOf_ok A1 n1 c1 l1 h8 200 N hN (by omega) S1.2.1 (by omega) W (S1.1.keep E) S1.2.2.2.2)
  have CO := hide (fun (W : World) (E : Ext w W) => byOf_ok A2 n2 c2 l2 h82 k hk S2.2.1 (by omega) W (S2.1.keep E) S2.2.2.2.2)
  rw [← hm] at CO
  obtain ⟨G, hG⟩ : ∃ G, G = byG l2 k := ⟨_, rfl⟩
  have g0 : G 0 = true := by rw [hG]; exact byG_zero _ _
  have gm : G m = true := by rw [hG, hm]; exact byG_top _ _
  have gf : ∀ j, m < j → G j = false := by rw [hG, hm]; exact byG_far _ _
  rw [← hG] at CO
  obtain ⟨f, hf⟩ : ∃ f, f = odd l1 := ⟨_, rfl⟩
  rw [← hf] at CB
  have CP := hide (fun w => Put_ok f G N m (by omega) (by omega) (by omega) g0 gm gf w)
  obtain ⟨P, hP⟩ : ∃ P, P = Wm.putF G N f := ⟨_, rfl⟩
  rw [← hP] at CP
  obtain ⟨L, hL⟩ : ∃ L, L = min n3 m := ⟨_, rfl⟩
  have hLm : L ≤ m := by omega
  have CB3 := hide (fun (W : World) (E : Ext w W) => bitsOf_ok A3 n3 c3 l3 h83 m L hL (by omega) S3.2.1 (by omega) W (S3.1.keep E) S3.2.2.2.2)
  obtain ⟨b, hb⟩ : ∃ b, b = odd l3 := ⟨_, rfl⟩
  rw [← hb] at CB3
  have CC := hide (fun w => contains_bits b L w)
  obtain ⟨M, hM⟩ : ∃ M, M = N + m - L + 1 := ⟨_, rfl⟩
  obtain ⟨a, ha0, ha1, -, CW⟩ := within_ex I0 M (by omega) (by omega)
  obtain ⟨a, rfl⟩ : ∃ r : Nat, a = r := ⟨a.toNat, by omega⟩
  have CT := hide (fun w => turn_bits P b (N + m) a L (by omega) (by omega) w)
  have CG := hide (fun w => Get_ok (Wm.fx P (Wm.sh a L b)) G N m (by omega) (by omega) (by omega) g0 gm gf w)
  obtain ⟨s, hs⟩ : ∃ s, s = bsF f N := ⟨_, rfl⟩
  obtain ⟨t, ht⟩ : ∃ t, t = bsF G (m + 1) := ⟨_, rfl⟩
  obtain ⟨p, hp⟩ : ∃ p, p = bsF P (N + m) := ⟨_, rfl⟩
  obtain ⟨u, hu⟩ : ∃ u, u = bsF b L := ⟨_, rfl⟩
  obtain ⟨v, hv⟩ : ∃ v, v = bsF (Wm.fx P (Wm.sh a L b)) (N + m) := ⟨_, rfl⟩
  have hpz : p.size = N + m := by rw [hp]; exact bsF_size _ _
  have htz : t.size = m + 1 := by rw [ht]; exact bsF_size _ _
  have huz : u.size = L := by rw [hu]; exact bsF_size _ _
  have htI : (t.size : Int) - 1 = (m : Int) := by omega
  have hup : ¬ (p.size : Int) < (u.size : Int) := by omega
  have hpu : (p.size : Int) - (u.size : Int) + 1 = (M : Int) := by omega
  have hm16 : (m : Int) ≤ 16 := by omega
  have hm0 : (0 : Int) ≤ (m : Int) := by omega
  have hM9 : (M : Int) ≤ 1000 := by omega
  have hwm : IntKind.i64.wrap (m : Int) = (m : Int) := IntWalk.i64_in _ (by omega)
  have hwM : IntKind.i64.wrap (M : Int) = (M : Int) := IntWalk.i64_in _ (by omega)
  have hpu2 : IntKind.i64.wrap ((p.size : Int) - (u.size : Int)) = (p.size : Int) - (u.size : Int) := IntWalk.i64_in _ (by omega)
  have htz9 : (t.size : Int) ≤ 17 := by omega
  have huz9 : (u.size : Int) ≤ 17 := by omega
  have hpz9 : (p.size : Int) ≤ 216 := by omega
  rw [← hs] at CB CP
  rw [← ht] at CO CP CG
  rw [← hp] at CP CT
  rw [← hu] at CB3 CT CC
  rw [← hv] at CT CG
  cases hB : anyB b L with
  | true =>
    have hgv : getV (Wm.fx P (Wm.sh a L b)) G N m = .tuple #[.string ⟨#[]⟩, .int .i64 8] := by
      unfold getV
      obtain ⟨j0, hj0, hb0⟩ := anyB_of hB
      obtain ⟨j, hj, hr⟩ := Wm.burst (G := G) (m := m) (a := a) (L := L) (N := N) g0 gm gf (f := Wm.sh a L b) hLm (by omega) (fun j hj => by
        unfold Wm.sh at hj
        simp only [Bool.and_eq_true, decide_eq_true_eq] at hj
        exact hj.1) (j0 := a + j0) (by
        unfold Wm.sh
        simp only [Bool.and_eq_true, decide_eq_true_eq]
        exact ⟨by omega, by rw [Nat.add_sub_cancel_left]; exact hb0⟩)
      rw [if_pos (anyB_yes hj (by show Wm.rn G N (Wm.fx P (Wm.sh a L b)) (N + j) = true; rw [hP, Wm.rn_turn g0]; exact hr))]
    rw [hgv] at CG
    rw [hB] at CC
    clear hs ht hp hu hv hpz htz huz hf hG g0 gm gf hgv hN hk hm hcb1 hcb2 hcb3 S1 S2 S3 hP hb hL hB hM hLm ha0 ha1
    go_enter Tryd.func5, Tryd.ntmps5
    go_wp2_with fail
    refine (unhide CY _).mono ?_
    rintro e w1 ⟨rfl, E1⟩
    go_wp2_with fail
    refine (unhide CB _ E1).mono ?_
    rintro e w2 ⟨rfl, E2⟩
    have F2 := E1.trans E2
    go_wp2_with fail
    refine (unhide CO _ F2).mono ?_
    rintro e w3 ⟨rfl, E3⟩
    have F3 := F2.trans E3
    go_wp2_with fail
    refine (unhide CP _).mono ?_
    rintro e w5 ⟨rfl, E5⟩
    have F5 := F3.trans E5
    go_wp2_with fail
    refine (unhide CB3 _ F5).mono ?_
    rintro e w7 ⟨rfl, E7⟩
    have F7 := F5.trans E7
    clear E1 E2 E3 E5 E7 F2 F3 F5 CY CB CO CP CB3
    go_wp2_with fail
    refine (unhide CC _).mono ?_
    rintro e w6 ⟨rfl, rfl⟩
    clear CC
    go_wp2_with fail
    refine (unhide CW _).mono ?_
    rintro e w8 ⟨rfl, rfl⟩
    go_wp2_with fail
    refine (unhide CT _).mono ?_
    rintro e w8 ⟨rfl, E8⟩
    have F8 := F7.trans E8
    go_wp2_with fail
    refine (unhide CG _).mono ?_
    rintro e w9 ⟨rfl, E9⟩
    have HF := hide (F8.trans E9)
    clear E8 E9 F7 F8 CG CT CW
    go_wp2
    go_ret
    exact ⟨rfl, unhide HF⟩
  | false =>
    rw [hB] at CC
    clear hs ht hp hu hv hpz htz huz hf hG g0 gm gf hN hk hm hcb1 hcb2 hcb3 S1 S2 S3 hP hb hL hB hM hLm ha0 ha1 CG CT CW
    go_enter Tryd.func5, Tryd.ntmps5
    go_wp2_with fail
    refine (unhide CY _).mono ?_
    rintro e w1 ⟨rfl, E1⟩
    go_wp2_with fail
    refine (unhide CB _ E1).mono ?_
    rintro e w2 ⟨rfl, E2⟩
    have F2 := E1.trans E2
    go_wp2_with fail
    refine (unhide CO _ F2).mono ?_
    rintro e w3 ⟨rfl, E3⟩
    have F3 := F2.trans E3
    go_wp2_with fail
    refine (unhide CP _).mono ?_
    rintro e w5 ⟨rfl, E5⟩
    have F5 := F3.trans E5
    go_wp2_with fail
    refine (unhide CB3 _ F5).mono ?_
    rintro e w7 ⟨rfl, E7⟩
    have F7 := F5.trans E7
    clear E1 E2 E3 E5 E7 F2 F3 F5 CY CB CO CP CB3
    go_wp2_with fail
    refine (unhide CC _).mono ?_
    rintro e w6 ⟨rfl, rfl⟩
    clear CC
    have HF := hide F7
    clear F7
    go_wp2
    go_ret
    exact ⟨rfl, unhide HF⟩
end Go.Proofs.YtekkghhihnnpjaaDoor

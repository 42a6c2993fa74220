/-
  The walk of the law CyclicOdd.
-/
import Derived.Test.YtekkghhihnnpjaaDoorCycW
set_option linter.unusedVariables false
set_option linter.unusedSimpArgs false
namespace Go.Proofs.YtekkghhihnnpjaaDoor
open Go.RowKit Go.BigFrame

theorem tmod_two (c : Nat) : (c : Int).tmod 2 = ((c % 2 : Nat) : Int) := rfl
set_option maxRecDepth 100000 in
set_option maxHeartbeats 4000000 in
theorem codd_law (A1 : Option Addr) (n1 c1 : Nat) (l1 : List Nat) (A2 : Option Addr) (n2 c2 : Nat) (l2 : List Nat) (A3 : Option Addr) (n3 c3 : Nat) (l3 : List Nat) (w : World) (S1 : SliceIn w A1 n1 c1 1 1 (nats .u8 l1)) (h8 : ∀ x ∈ l1, x < 256) (S2 : SliceIn w A2 n2 c2 1 1 (nats .u8 l2)) (h82 : ∀ x ∈ l2, x < 256) (S3 : SliceIn w A3 n3 c3 1 1 (nats .u8 l3)) (h83 : ∀ x ∈ l3, x < 256) :
    Calls Tryd.prog 7 #[.slice A1 n1 c1, .slice A2 n2 c2, .slice A3 n3 c3] w fun e w' => e = .returned (.bool true) ∧ Ext w w' := by
  obtain ⟨N, hN⟩ : ∃ N, N = min n1 200 := ⟨_, rfl⟩
  obtain ⟨k, hk⟩ : ∃ k, k = min n2 15 := ⟨_, rfl⟩
  obtain ⟨m, hm⟩ : ∃ m, m = k + 1 := ⟨_, rfl⟩
  have hcb1 := S1.2.2.1
  have hcb2 := S2.2.2.1
  have hcb3 := S3.2.2.1
  have CY := hide (fun w => cyclics_ok w)
  have CB := hide (fun (W : World) (E : Ext w W) => bitsOf_ok A1 n1 c1 l1 h8 200 N hN (by omega) S1.2.1 (by omega) W (S1.1.keep E) S1.2.2.2.2)
  have CO := hide (fun (W : World) (E : Ext w W) => byOf_ok A2 n2 c2 l2 h82 k hk S2.2.1 (by omega) W (S2.1.keep E) S2.2.2.2.2)
  rw [← hm] at CO
  obtain ⟨G, hG⟩ : ∃ G, G = byG l2 k := ⟨_, rfl⟩
  have g0 : G 0 = true := by rw [hG]; exact byG_zero _ _
  have gm : G m = true := by rw [hG, hm]; exact byG_top _ _
  have gf : ∀ j, m < j → G j = false := by rw [hG, hm]; exact byG_far _ _
  rw [← hG] at CO
  obtain ⟨f, hf⟩ : ∃ f, f = odd l1 := ⟨_, rfl⟩
  rw [← hf] at CB
  have CP := hide (fun w => Put_ok f G N m (by omega) (by omega) (by omega) g0 gm gf w)
  have CN := hide (fun w => count_bits G (m + 1) w)
  have hGc := cn_par G (m + 1)
  by_cases hpar : Wm.par G (m + 1) = true
  · rw [if_pos hpar] at hGc
    have hr1 : ((cn G (m + 1) : Nat) : Int).tmod 2 = 1 := by rw [tmod_two, hGc]; rfl
    have hr2 : ((cn G (m + 1) : Nat) : Int) % 2 = 1 := by omega
    obtain ⟨s, hs⟩ : ∃ s, s = bsF f N := ⟨_, rfl⟩
    obtain ⟨t, ht⟩ : ∃ t, t = bsF G (m + 1) := ⟨_, rfl⟩
    rw [← hs] at CB
    rw [← ht] at CO CN
    generalize cn G (m + 1) = c at *
    clear hs ht hf hG g0 gm gf hN hk hm hcb1 hcb2 hcb3 S1 S2 S3 CP hpar hGc
    go_enter Tryd.func7, Tryd.ntmps7
    go_wp2_with fail
    refine (unhide CY _).mono ?_
    rintro e w1 ⟨rfl, E1⟩
    go_wp2_with fail
    refine (unhide CB _ E1).mono ?_
    rintro e w2 ⟨rfl, E2⟩
    have F2 := E1.trans E2
    go_wp2_with fail
    refine (unhide CO _ F2).mono ?_
    rintro e w3 ⟨rfl, E3⟩
    have F3 := F2.trans E3
    go_wp2_with fail
    refine (unhide CN _).mono ?_
    rintro e w4 ⟨rfl, rfl⟩
    have HF := hide F3
    clear E1 E2 E3 F2 F3 CY CB CO CN
    go_wp2
    go_ret
    exact ⟨rfl, unhide HF⟩
  · have hpar : Wm.par G (m + 1) = false := by simpa using hpar
    rw [hpar, if_neg (by simp)] at hGc
    have hr1 : ((cn G (m + 1) : Nat) : Int).tmod 2 = 0 := by rw [tmod_two, hGc]; rfl
    have hr2 : ((cn G (m + 1) : Nat) : Int) % 2 = 0 := by omega
    obtain ⟨P, hP⟩ : ∃ P, P = Wm.putF G N f := ⟨_, rfl⟩
    have hPc := cn_par P (N + m)
    rw [show Wm.par P (N + m) = false from by rw [hP]; exact Wm.par_put g0 gf hpar N f, if_neg (by simp)] at hPc
    have hq1 : ((cn P (N + m) : Nat) : Int).tmod 2 = 0 := by rw [tmod_two, hPc]; rfl
    have hq2 : ((cn P (N + m) : Nat) : Int) % 2 = 0 := by omega
    have CNP := hide (fun w => count_bits P (N + m) w)
    obtain ⟨L, hL⟩ : ∃ L, L = min n3 (N + m) := ⟨_, rfl⟩
    have CB3 := hide (fun (W : World) (E : Ext w W) => bitsOf_ok A3 n3 c3 l3 h83 (N + m) L hL (by omega) S3.2.1 (by omega) W (S3.1.keep E) S3.2.2.2.2)
    obtain ⟨b, hb⟩ : ∃ b, b = odd l3 := ⟨_, rfl⟩
    rw [← hb] at CB3
    have CT := hide (fun w => turn_bits P b (N + m) 0 L (by omega) (by omega) w)
    have CG := hide (fun w => Get_ok (Wm.fx P (Wm.sh 0 L b)) G N m (by omega) (by omega) (by omega) g0 gm gf w)
    have CNB := hide (fun w => count_bits b L w)
    have hBc := cn_par b L
    have hgv : Wm.par b L = true → getV (Wm.fx P (Wm.sh 0 L b)) G N m = .tuple #[.string ⟨#[]⟩, .int .i64 8] := by
      intro hb1
      unfold getV
      rw [if_pos]
      cases c : anyB (fun j => Wm.rn G N (Wm.fx P (Wm.sh 0 L b)) (N + j)) m with
      | true => rfl
      | false =>
        exfalso
        have h1 := anyB_off c
        have h2 : Wm.par (Wm.rn G N (Wm.sh 0 L b)) (N + m) = false := Wm.par_none _ fun j hj => by
          by_cases cj : j < N
          · exact Wm.rn_low g0 _ N j cj
          · have h3 := h1 (j - N) (by omega)
            rw [hP, Wm.rn_turn g0] at h3
            simpa [show N + (j - N) = j by omega] using h3
        rw [Wm.par_rn gf hpar _ N (Nat.le_refl _), Wm.par_sh b (by omega), hb1] at h2
        cases h2
    rw [← hP] at CP
    obtain ⟨s, hs⟩ : ∃ s, s = bsF f N := ⟨_, rfl⟩
    obtain ⟨t, ht⟩ : ∃ t, t = bsF G (m + 1) := ⟨_, rfl⟩
    obtain ⟨p, hp⟩ : ∃ p, p = bsF P (N + m) := ⟨_, rfl⟩
    obtain ⟨u, hu⟩ : ∃ u, u = bsF b L := ⟨_, rfl⟩
    obtain ⟨v, hv⟩ : ∃ v, v = bsF (Wm.fx P (Wm.sh 0 L b)) (N + m) := ⟨_, rfl⟩
    have hpz : p.size = N + m := by rw [hp]; exact bsF_size _ _
    have hpzI : (p.size : Int) = ((N + m : Nat) : Int) := by omega
    rw [← hs] at CB CP
    rw [← ht] at CO CN CP CG
    rw [← hp] at CP CNP CT
    rw [← hu] at CB3 CT CNB
    rw [← hv] at CT CG
    obtain ⟨V, hV⟩ : ∃ V, V = getV (Wm.fx P (Wm.sh 0 L b)) G N m := ⟨_, rfl⟩
    rw [← hV] at CG hgv
    have hVt : ∃ z q, V = .tuple #[.string z, .int .i64 q] := by
      rw [hV]; unfold getV; split
      · exact ⟨_, _, rfl⟩
      · exact ⟨_, _, rfl⟩
    obtain ⟨z, q, hVt⟩ := hVt
    have hq8 : Wm.par b L = true → q = 8 := fun h => by
      have := hgv h
      rw [hVt] at this
      injection this with h1
      have h2 := congrArg (fun a => a[1]?) h1
      simp at h2
      exact h2
    rw [hVt] at CG
    generalize cn G (m + 1) = cG at *
    generalize cn P (N + m) = cP at *
    generalize cn b L = cB at *
    rw [hpz.symm] at CB3
    by_cases hB : Wm.par b L = true
    · rw [if_pos hB] at hBc
      obtain rfl := hq8 hB
      have ht1 : ((cB : Nat) : Int).tmod 2 = 1 := by rw [tmod_two, hBc]; rfl
      have ht2 : ((cB : Nat) : Int) % 2 = 1 := by omega
      clear hs ht hp hu hv hpz hpzI hV hVt hq8 hf hG g0 gm gf hgv hN hk hm hcb1 hcb2 hcb3 S1 S2 S3 hP hb hL hB hBc hPc hGc hpar
      go_enter Tryd.func7, Tryd.ntmps7
      go_wp2_with fail
      refine (unhide CY _).mono ?_
      rintro e w1 ⟨rfl, E1⟩
      go_wp2_with fail
      refine (unhide CB _ E1).mono ?_
      rintro e w2 ⟨rfl, E2⟩
      have F2 := E1.trans E2
      go_wp2_with fail
      refine (unhide CO _ F2).mono ?_
      rintro e w3 ⟨rfl, E3⟩
      have F3 := F2.trans E3
      go_wp2_with fail
      refine (unhide CN _).mono ?_
      rintro e w4 ⟨rfl, rfl⟩
      go_wp2_with fail
      refine (unhide CP _).mono ?_
      rintro e w5 ⟨rfl, E5⟩
      have F5 := F3.trans E5
      go_wp2_with fail
      refine (unhide CNP _).mono ?_
      rintro e w6 ⟨rfl, rfl⟩
      go_wp2_with fail
      refine (unhide CB3 _ F5).mono ?_
      rintro e w7 ⟨rfl, E7⟩
      have F7 := F5.trans E7
      go_wp2_with fail
      refine (unhide CT _).mono ?_
      rintro e w8 ⟨rfl, E8⟩
      have F8 := F7.trans E8
      go_wp2_with fail
      refine (unhide CG _).mono ?_
      rintro e w9 ⟨rfl, E9⟩
      have F9 := F8.trans E9
      go_wp2_with fail
      refine (unhide CNB _).mono ?_
      rintro e w10 ⟨rfl, rfl⟩
      have HF := hide F9
      clear E1 E2 E3 E5 E7 E8 E9 F2 F3 F5 F7 F8 F9 CY CB CO CN CP CNP CB3 CT CG CNB
      go_wp2
      go_ret
      exact ⟨rfl, unhide HF⟩
    · rw [if_neg hB] at hBc
      have ht1 : ((cB : Nat) : Int).tmod 2 = 0 := by rw [tmod_two, hBc]; rfl
      have ht2 : ((cB : Nat) : Int) % 2 = 0 := by omega
      clear hs ht hp hu hv hpz hpzI hV hVt hq8 hf hG g0 gm gf hgv hN hk hm hcb1 hcb2 hcb3 S1 S2 S3 hP hb hL hB hBc hPc hGc hpar
      go_enter Tryd.func7, Tryd.ntmps7
      go_wp2_with fail
      refine (unhide CY _).mono ?_
      rintro e w1 ⟨rfl, E1⟩
      go_wp2_with fail
      refine (unhide CB _ E1).mono ?_
      rintro e w2 ⟨rfl, E2⟩
      have F2 := E1.trans E2
      go_wp2_with fail
      refine (unhide CO _ F2).mono ?_
      rintro e w3 ⟨rfl, E3⟩
      have F3 := F2.trans E3
      go_wp2_with fail
      refine (unhide CN _).mono ?_
      rintro e w4 ⟨rfl, rfl⟩
      go_wp2_with fail
      refine (unhide CP _).mono ?_
      rintro e w5 ⟨rfl, E5⟩
      have F5 := F3.trans E5
      go_wp2_with fail
      refine (unhide CNP _).mono ?_
      rintro e w6 ⟨rfl, rfl⟩
      go_wp2_with fail
      refine (unhide CB3 _ F5).mono ?_
      rintro e w7 ⟨rfl, E7⟩
      have F7 := F5.trans E7
      go_wp2_with fail
      refine (unhide CT _).mono ?_
      rintro e w8 ⟨rfl, E8⟩
      have F8 := F7.trans E8
      go_wp2_with fail
      refine (unhide CG _).mono ?_
      rintro e w9 ⟨rfl, E9⟩
      have F9 := F8.trans E9
      go_wp2_with fail
      refine (unhide CNB _).mono ?_
      rintro e w10 ⟨rfl, rfl⟩
      have HF := hide F9
      clear E1 E2 E3 E5 E7 E8 E9 F2 F3 F5 F7 F8 F9 CY CB CO CN CP CNP CB3 CT CG CNB
      go_wp2
      go_ret
      exact ⟨rfl, unhide HF⟩
end Go.Proofs.YtekkghhihnnpjaaDoor

/-
  The law LinearWilliams returns true: the walk.
-/
import Derived.Test.YtbejhfafipedmaaLin11
set_option linter.unusedVariables false
set_option linter.unusedSimpArgs false
namespace Go.Proofs.Ytbejhfafipedmaa
open Go.RowKit Go.BigFrame Go.Sort

set_option maxRecDepth 100000 in
set_option maxHeartbeats 4000000 in
theorem williams_law (n : Int) (A : Option Addr) (m c : Nat) (l : List Nat) (w : World) (S : SliceIn w A m c 1 2 (nats .u16 l)) (hl : ∀ x ∈ l, x < 65536) :
    Calls Try.prog 7 #[.int .i64 n, .slice A m c] w fun e w' => e = .returned (.bool true) ∧ Ext w w' := by
  have hm63 : m ≤ 9223372036854775807 := by have := S.2.1; have := S.2.2.2.1; omega
  have CT := hide wts_trial
  have CV := hide words_any
  have CD := hide (fun (W : World) (E : Ext w W) => Dual_any n A m c l W (S.1.keep E) hm63 hl)
  have CW := hide (fun (W : World) (E : Ext w W) => Weights_any n A m c l W (S.1.keep E) hm63 hl)
  clear S
  go_enter Try.func7, Try.ntmps7
  go_wp2_with fail
  refine (unhide CT _ _ (row16 w [3, 5] 2 rfl _ rfl)).mono ?_
  rintro e w1 ⟨⟨v, rfl, M1⟩, E1⟩
  have HE1 := hide (show Ext w w1 from Ext.trans ((Ext.refl w).alloc _) E1)
  obtain ⟨A1, c1, rfl, R1, -, hc1, -⟩ := M1.open_
  have HR1 := hide R1
  have CE1 := hide (fun (W : World) (E : Ext w1 W) (b : Nat) (S : Row W (some ⟨b, 0, none⟩) 4 1 (nats .i64 [1, 0, 3, 0])) => equal_i64 A1 (some ⟨b, 0, none⟩) 4 4 c1 4 [1, 0, 3, 0] [1, 0, 3, 0] W ((unhide HR1).keep E) S (by omega) (by omega))
  clear M1 E1 CT R1
  go_wp2_with fail
  refine (unhide CE1 _ (by repeat (first | exact Ext.refl _ | refine Ext.alloc ?_ _ | refine Ext.drew ?_ | refine Ext.drewN ?_ _ | (refine Ext.trans ?_ (plus_ext _ _)) | (refine Ext.setCell ?_ (by have := Ext.size Ext.refl _; simp; omega) _))) _ (rowI _ [1, 0, 3, 0] 4 rfl _ rfl)).mono ?_
  rintro e w2 ⟨rfl, q2, rfl⟩
  go_wp2_with fail
  refine (unhide CV _).mono ?_
  rintro e w3 ⟨rfl, E3⟩
  have HE3 := hide (show Ext w w3 from Ext.trans ((by repeat (first | exact unhide HE1 | refine Ext.alloc ?_ _ | refine Ext.drew ?_ | refine Ext.drewN ?_ _ | (refine Ext.trans ?_ (plus_ext _ _)) | (refine Ext.setCell ?_ (by have := Ext.size unhide HE1; simp; omega) _)))) E3)
  clear E3 CE1 HR1 HE1 CV hc1
  by_cases hk : Wm.chkL n l = 0
  · obtain ⟨N, rfl, h1, h12, h6, hlt⟩ := Wm.chk_ok hk
    have HK0 := hide hk
    have HT := hide (Int.toNat_natCast N)
    go_wp2_with fail
    refine (unhide CD _ (unhide HE3)).mono ?_
    rintro e w4 ⟨ho, E4⟩
    have HE4 := hide ((unhide HE3).trans E4)
    clear E4 CD HE3
    rcases ho with ⟨h, -⟩ | ⟨-, ⟨-, rfl⟩ | ⟨hsm, v, rfl, M⟩⟩
    · exact absurd (unhide HK0) h
    · go_wp2_with fail
      refine (unhide CW _ (unhide HE4)).mono ?_
      rintro e w5 ⟨ho, E5⟩
      rcases ho with ⟨h, -⟩ | ⟨-, v, rfl, M2⟩
      · exact absurd (unhide HK0) h
      obtain ⟨A2, c2, rfl, -, -, -, -⟩ := M2.open_
      have HE5 := hide ((unhide HE4).trans E5)
      clear M2 E5
      go_wp2
      go_ret
      exact ⟨ret_boolv (by simp), unhide HE5⟩
    · rw [unhide HT] at hsm M
      obtain ⟨A2, c2, rfl, R2, -, hc2, -⟩ := M.open_
      have HR2 := hide R2
      have hdl : (Wm.bl (Wm.du N l)).length ≤ 6 := by have := Wm.dual_dim hlt; omega
      have HDC := hide (Wm.chk_dual h1 h12 hlt hsm)
      have CX := hide (fun (W : World) (E : Ext w4 W) => Weights_any N A2 _ c2 (Wm.bl (Wm.du N l)) W ((unhide HR2).keep E) (by omega) (fun x hx => Nat.lt_of_lt_of_le (Wm.bl_lt Wm.du_lt x hx) (Nat.le_trans (Nat.pow_le_pow_right (by omega) h12) (by decide))))
      clear M R2
      go_wp2_with fail
      refine (unhide CW _ (unhide HE4)).mono ?_
      rintro e w5 ⟨ho, E5⟩
      rcases ho with ⟨h, -⟩ | ⟨-, v, rfl, M2⟩
      · exact absurd (unhide HK0) h
      have HE5 := hide ((unhide HE4).trans E5)
      rw [unhide HT] at M2
      obtain ⟨A3, c3, rfl, R3, -, hc3, -⟩ := M2.open_
      have HR3 := hide R3
      clear M2 R3 CW HE4
      go_wp2_with fail
      refine (unhide CX _ E5).mono ?_
      rintro e w6 ⟨ho, E6⟩
      rcases ho with ⟨h, -⟩ | ⟨-, v, rfl, M4⟩
      · exact absurd (unhide HDC) h
      have HE6 := hide ((unhide HE5).trans E6)
      rw [unhide HT] at M4
      obtain ⟨A4, c4, rfl, R4, -, hc4, -⟩ := M4.open_
      have HR4 := hide R4
      have HR36 := hide ((unhide HR3).keep E6)
      have hL64 : (Wm.wl l).length ≤ 64 := by
        rw [Wm.wl_len]
        have : 2 ^ (Wm.bl l).length ≤ 2 ^ 6 := Nat.pow_le_pow_right (by omega) (Nat.le_trans (Wm.bl_len_le l) h6)
        omega
      have hM64 : (Wm.wl (Wm.bl (Wm.du N l))).length ≤ 64 := by
        rw [Wm.wl_bl, Wm.wl_len]
        have : 2 ^ (Wm.bl (Wm.du N l)).length ≤ 2 ^ 6 := Nat.pow_le_pow_right (by omega) hdl
        omega
      have HLW := hide (show ∀ i, Wm.wcnt (Wm.wl l) i ≤ 64 from fun i => Nat.le_trans (Wm.wcnt_le _ i) hL64)
      have HMW := hide (show ∀ i, Wm.wcnt (Wm.wl (Wm.bl (Wm.du N l))) i ≤ 64 from fun i => Nat.le_trans (Wm.wcnt_le _ i) hM64)
      have HSUM := hide (show (Wm.wts N (Wm.wl l)).sum = (Wm.wl l).length from by
        have h := Wm.mkS_sum (Wm.wcnt (Wm.wl l)) (N + 1)
        rw [Wm.sum_wts (by omega) hlt] at h
        exact Int.ofNat_inj.1 h)
      have HMC := hide (fun j (hj : j ≤ 13) => Wm.williams_wts h12 hlt hj)
      have CS := hide (fun (W : World) (E : Ext w6 W) => sum_ok A3 (N + 1) c3 _ W ((unhide HR36).keep E) (by omega) (fun x hx => by
        obtain ⟨i, -, rfl⟩ := Wm.mkS_mem.1 hx
        have := unhide HLW i
        omega))
      rw [unhide HSUM] at CS
      have HG3 := hide (show ∀ i, i < N + 1 → (Wm.wts N (Wm.wl l)).getD i 0 = Wm.wcnt (Wm.wl l) i from fun i hi => Wm.mkS_get _ hi)
      have HG4 := hide (show ∀ i, i < N + 1 → (Wm.wts N (Wm.wl (Wm.bl (Wm.du N l)))).getD i 0 = Wm.wcnt (Wm.wl (Wm.bl (Wm.du N l))) i from fun i hi => Wm.mkS_get _ hi)
      have HP := hide (fun j (hj : j < N + 1) i (hi : i < N + 1) => Wm.krS_small (n := N) (i := i) (j := j) (s := j + 1) h12 (by omega) (Nat.le_refl _))
      have HPS := hide (show ∀ j, j < N + 1 → ∀ k, k ≤ N + 1 → -(262144 * (k : Int)) ≤ Wm.sI (List.range k) (fun i => (Wm.wcnt (Wm.wl l) i : Int) * Wm.kr N i j) ∧ Wm.sI (List.range k) (fun i => (Wm.wcnt (Wm.wl l) i : Int) * Wm.kr N i j) ≤ 262144 * (k : Int) from fun j hj k hk => Wm.part_small (by omega) k fun i hi => by
        have h1 := unhide HP j hj i (by omega)
        have h2 := unhide HLW i
        have e : Wm.krS N i j (j + 1) = Wm.kr N i j := rfl
        rw [e] at h1
        generalize Wm.kr N i j = u at *
        generalize Wm.wcnt (Wm.wl l) i = v at *
        have a1 : (v : Int) * u ≤ 64 * 4096 := by
          by_cases hu : 0 ≤ u
          · exact Int.mul_le_mul (by omega) h1.2 hu (by omega)
          · have : (v : Int) * u ≤ 0 := Int.mul_nonpos_of_nonneg_of_nonpos (by omega) (by omega)
            omega
        have a2 : -(64 * 4096) ≤ (v : Int) * u := by
          by_cases hu : 0 ≤ u
          · have : 0 ≤ (v : Int) * u := Int.mul_nonneg (by omega) hu
            omega
          · have : (v : Int) * (-u) ≤ 64 * 4096 := Int.mul_le_mul (by omega) (by omega) (by omega) (by omega)
            rw [Int.mul_neg] at this
            omega
        omega)
      clear M4 R4 CX E5 HE5 E6 HR3 HR2 hc2 HT HK0 HDC hlt hl hk h6 hsm hdl HSUM hM64
      generalize Wm.wl (Wm.bl (Wm.du N l)) = LD at *
      generalize (Wm.bl (Wm.du N l)).length = KD at *
      generalize hLL : Wm.wl l = LL at *
      clear hLL
      generalize LL.length = L at *
      have hN1 : ((N + 1 : Nat) : Int) = (N : Int) + 1 := by omega
      go_wp2_with (go_at_call 12; refine (good_made' [0, 0] _ _ _ _ _ rfl rfl (by decide) (by simp)).mono ?_; rintro e wg ⟨rfl, rfl⟩)
      refine (unhide CS _ (by repeat (first | exact Ext.refl _ | refine Ext.alloc ?_ _ | refine Ext.drew ?_ | refine Ext.drewN ?_ _ | (refine Ext.trans ?_ (plus_ext _ _)) | (refine Ext.setCell ?_ (by have := Ext.size Ext.refl _; simp; omega) _)))).mono ?_
      rintro e w7 ⟨rfl, hw⟩
      have E7 : Ext w6 w7 := by rw [hw]; exact (Ext.refl w6).alloc _
      have HE7 := hide ((unhide HE6).trans E7)
      have HR37 := hide ((unhide HR36).keep E7)
      have HR47 := hide ((unhide HR4).keep E7)
      clear hw E7 HE6 HR36 HR4 CS
      go_wp2
      go_loopw [83] (fun a wr => ∃ j : Nat, j ≤ N + 1 ∧ a = .int .i64 j ∧ wr = w7) (fun a _ => N + 1 - (intOf a).toNat)
      case atStart => exact ⟨0, Nat.zero_le _, rfl, rfl⟩
      case round =>
        obtain ⟨j, hjN, rfl, hw⟩ := hrel
        subst hw
        by_cases hlt : j < N + 1
        · have hltI : (j : Int) < (N : Int) + 1 := by omega
          have hj1 : ((j + 1 : Nat) : Int) = (j : Int) + 1 := by omega
          go_wp2
          go_loopw [15, 88] (fun x a wz => ∃ i : Nat, i ≤ N + 1 ∧ a = .int .i64 i ∧ x = .int .i64 (Wm.sI (List.range i) fun i => (Wm.wcnt LL i : Int) * Wm.kr N i j) ∧ wz = wr) (fun _ a _ => N + 1 - (intOf a).toNat)
          case atStart => exact ⟨0, Nat.zero_le _, rfl, rfl, rfl⟩
          case round =>
            obtain ⟨i, hiN, rfl, rfl, hw⟩ := hrel
            subst hw
            by_cases hlti : i < N + 1
            · have hltiI : (i : Int) < (N : Int) + 1 := by omega
              go_wp2
              go_loopw [17, 93] (fun x a wy => ∃ s : Nat, s ≤ j + 1 ∧ a = .int .i64 s ∧ x = .int .i64 (Wm.krS N i j s) ∧ wy = wr) (fun _ a _ => j + 1 - (intOf a).toNat)
              case atStart => exact ⟨0, Nat.zero_le _, rfl, rfl, rfl⟩
              case round =>
                obtain ⟨s, hsj, rfl, rfl, hw⟩ := hrel
                subst hw
                by_cases hlts : s < j + 1
                · have hltsI : (s : Int) < (j : Int) + 1 := by omega
                  obtain ⟨a, ha⟩ : ∃ a, a = N - i := ⟨_, rfl⟩
                  have haI : (N : Int) - (i : Int) = (a : Int) := by omega
                  obtain ⟨t, ht⟩ : ∃ t, t = j - s := ⟨_, rfl⟩
                  have htI : (j : Int) - (s : Int) = (t : Int) := by omega
                  have hp := Wm.term_small (n := N) (i := i) (j := j) (s := s) h12 (by omega) (by omega)
                  have k1 := Wm.krS_small (n := N) (i := i) (j := j) (s := s) h12 (by omega) (by omega)
                  have k2 := Wm.krS_small (n := N) (i := i) (j := j) (s := s + 1) h12 (by omega) (by omega)
                  have hk : Wm.krS N i j (s + 1) = Wm.krS N i j s + (if s % 2 = 1 then -1 else 1) * ((Wm.C i s * Wm.C (N - i) (j - s) : Nat) : Int) := rfl
                  rw [← ha, ← ht] at hp hk
                  have C1 := hide (fun W => choose_ok i s (by omega) (by omega) W)
                  have C2 := hide (fun W => choose_ok a t (by omega) (by omega) W)
                  obtain ⟨p, hpp⟩ : ∃ p, p = Wm.C i s * Wm.C a t := ⟨_, rfl⟩
                  have hpI : ((Wm.C i s : Nat) : Int) * ((Wm.C a t : Nat) : Int) = (p : Int) := by rw [hpp, Int.natCast_mul]
                  rw [← hpp] at hp hk
                  generalize Wm.C i s = x at *
                  generalize Wm.C a t = y at *
                  clear ha ht hpp
                  by_cases hs2 : s % 2 = 1
                  · rw [if_pos hs2] at hk
                    have hm1 : (s : Int).tmod 2 = 1 := by rw [Int.tmod_eq_emod_of_nonneg (by omega)]; omega
                    have hm2 : (s : Int) % 2 = 1 := by omega
                    have HK := hide (show Wm.krS N i j (s + 1) = Wm.krS N i j s + -(p : Int) by rw [hk]; omega)
                    rw [unhide HK] at k2
                    clear hk hs2
                    generalize Wm.krS N i j s = u at *
                    go_wp2_with fail
                    refine (unhide C1 _).mono ?_
                    rintro e wc ⟨rfl, rfl⟩
                    go_wp2_with fail
                    refine (unhide C2 _).mono ?_
                    rintro e wc ⟨rfl, rfl⟩
                    go_wp2
                    go_roundw
                    case rel => exact ⟨s + 1, by omega, by go_num, by rw [unhide HK], trivial⟩
                    case measure => simp [intOf]; omega
                  · rw [if_neg hs2] at hk
                    have hm1 : (s : Int).tmod 2 = 0 := by rw [Int.tmod_eq_emod_of_nonneg (by omega)]; omega
                    have hm2 : (s : Int) % 2 = 0 := by omega
                    have HK := hide (show Wm.krS N i j (s + 1) = Wm.krS N i j s + (p : Int) by rw [hk]; omega)
                    rw [unhide HK] at k2
                    clear hk hs2
                    generalize Wm.krS N i j s = u at *
                    go_wp2_with fail
                    refine (unhide C1 _).mono ?_
                    rintro e wc ⟨rfl, rfl⟩
                    go_wp2_with fail
                    refine (unhide C2 _).mono ?_
                    rintro e wc ⟨rfl, rfl⟩
                    go_wp2
                    go_roundw
                    case rel => exact ⟨s + 1, by omega, by go_num, by rw [unhide HK], trivial⟩
                    case measure => simp [intOf]; omega
                · obtain rfl : s = j + 1 := by omega
                  have hnl : ¬ (j : Int) + 1 < (j : Int) + 1 := by omega
                  rw [hj1]
                  obtain ⟨b, o, rfl, hb, hc⟩ := (unhide HR37).nat hlti
                  rw [unhide HG3 i hlti] at hc
                  have hv := unhide HLW i
                  have p1 := unhide HPS j hlt i hiN
                  have p2 := unhide HPS j hlt (i + 1) (by omega)
                  have hss : Wm.sI (List.range (i + 1)) (fun i => (Wm.wcnt LL i : Int) * Wm.kr N i j) = Wm.sI (List.range i) (fun i => (Wm.wcnt LL i : Int) * Wm.kr N i j) + (Wm.wcnt LL i : Int) * Wm.krS N i j (j + 1) := Wm.sI_range _ i
                  have hu := unhide HP j hlt i hlti
                  generalize Wm.krS N i j (j + 1) = u at *
                  obtain ⟨y, hy⟩ : ∃ y, y = (Wm.wcnt LL i : Int) * u := ⟨_, rfl⟩
                  rw [← hy] at hss
                  rw [hss] at p2
                  have HSS := hide hss
                  clear hss
                  generalize Wm.sI (List.range i) (fun i => (Wm.wcnt LL i : Int) * Wm.kr N i j) = x at *
                  generalize Wm.wcnt LL i = v at *
                  have hyI : (v : Int) * u = y := hy.symm
                  clear hy hlts
                  go_wp2
                  go_roundw
                  case rel => exact ⟨i + 1, by omega, by go_num, by rw [unhide HSS], trivial⟩
                  case measure => simp [intOf]; omega
            · obtain rfl : i = N + 1 := by omega
              rw [hN1]
              have hnl : ¬ (N : Int) + 1 < (N : Int) + 1 := by omega
              obtain ⟨b, o, rfl, hb, hc⟩ := (unhide HR47).nat hlt
              rw [unhide HG4 j hlt] at hc
              have hmc := unhide HMC j (by omega)
              rw [← hmc]
              have hv := unhide HMW j
              clear hmc
              generalize Wm.wcnt LD j = v at *
              obtain ⟨y, hy⟩ : ∃ y, y = L * v := ⟨_, rfl⟩
              have hyb : y ≤ 64 * 64 := by rw [hy]; exact Nat.mul_le_mul hL64 hv
              have hyI : (L : Int) * (v : Int) = (y : Int) := by rw [hy, Int.natCast_mul]
              clear hy hlti
              go_wp2
              go_roundw
              case rel => exact ⟨j + 1, by omega, by go_num, trivial⟩
              case measure => simp [intOf]; omega
        · obtain rfl : j = N + 1 := by omega
          rw [hN1]
          have hnl : ¬ (N : Int) + 1 < (N : Int) + 1 := by omega
          go_wp2
          go_ret
          exact ⟨ret_boolv (by simp), unhide HE7⟩
  · obtain ⟨q, hq⟩ : ∃ q, q = Wm.chkL n l := ⟨_, rfl⟩
    have hqB : (q != 0) = true := by rw [hq]; simpa using hk
    have HQ := hide (And.intro hq hk)
    clear hq hk hl
    go_wp2_with fail
    refine (unhide CD _ (unhide HE3)).mono ?_
    rintro e w4 ⟨ho, E4⟩
    have HE4 := hide ((unhide HE3).trans E4)
    clear E4 CD HE3
    rcases ho with ⟨-, rfl⟩ | ⟨h, -⟩
    · rw [← (unhide HQ).1]
      go_wp2_with fail
      refine (unhide CW _ (unhide HE4)).mono ?_
      rintro e w5 ⟨ho, E5⟩
      rcases ho with ⟨-, rfl⟩ | ⟨h, -⟩
      · rw [← (unhide HQ).1]
        have HE5 := hide ((unhide HE4).trans E5)
        clear E5
        go_wp2
        go_ret
        exact ⟨ret_boolv (by simp), unhide HE5⟩
      · exact absurd h (unhide HQ).2
    · exact absurd h (unhide HQ).2
end Go.Proofs.Ytbejhfafipedmaa

/-
  The contract of irred.Count for small degrees, and the walk of the law IrredMany.
-/
import Derived.Test.YtahchidghfeofaaIrrMany0
import Derived.Test.YtahchidghfeofaaIrr1
import Derived.Test.YtahchidghfeofaaPoly7
import Derived.Test.YtahchidghfeofaaDivs1
set_option linter.unusedVariables false
set_option linter.unusedSimpArgs false
namespace Go.Proofs.Ytahchidghfeofaa
open Go.RowKit Go.BigFrame

set_option maxRecDepth 100000 in
set_option maxHeartbeats 1000000 in
/-- Whether so many may be counted. -/
theorem icheck_any (P : Wm.Pr) (h9 : P.p ≤ 997) (n : Nat) (h1 : 1 ≤ n) (h6 : n ≤ 6) (w : World) :
    Calls Try.prog 16 #[.int .i64 P.p, .int .i64 n] w fun e w' => e = .returned (.int .i64 (if 1000000 < Wm.pwN P.p n then 2 else 0)) ∧ ∃ k, w' = w.drewN k := by
  have CF := hide (fun w : World => Field_any (P.p : Int) w)
  rw [errF_yes (⟨P.p, rfl, P.hp, h9⟩)] at CF
  have CP := hide (fun w : World => power_ok P h9 n (by omega) w)
  obtain ⟨v, hv⟩ : ∃ v, v = Wm.pwN P.p n := ⟨_, rfl⟩
  rw [← hv] at CP ⊢
  clear hv
  by_cases hb : 1000000 < v
  · rw [if_pos hb]
    have hbI : decide ((1000000 : Int) < (v : Int)) = true := decide_eq_true (by omega)
    clear hb
    go_enter Try.func16, Try.ntmps16
    go_wp2_with fail
    refine (unhide CF _).mono ?_
    rintro e w1 ⟨rfl, rfl⟩
    go_wp2_with fail
    refine (unhide CP _).mono ?_
    rintro e w2 ⟨rfl, k, rfl⟩
    go_wp2
    go_ret
    exact ⟨rfl, k, rfl⟩
  · rw [if_neg hb]
    have hbI : decide ((1000000 : Int) < (v : Int)) = false := decide_eq_false (by omega)
    clear hb
    go_enter Try.func16, Try.ntmps16
    go_wp2_with fail
    refine (unhide CF _).mono ?_
    rintro e w1 ⟨rfl, rfl⟩
    go_wp2_with fail
    refine (unhide CP _).mono ?_
    rintro e w2 ⟨rfl, k, rfl⟩
    go_wp2
    go_ret
    exact ⟨rfl, k, rfl⟩

def CntPost (p n : Nat) (e : Ending) : Prop := (1000000 < Wm.pwN p n ∧ e = .returned (.tuple #[.int .i64 0, .int .i64 2])) ∨ (p ^ n ≤ 1000000 ∧ e = .returned (.tuple #[.int .i64 (Wm.ctI p n), .int .i64 0]))
set_option maxRecDepth 100000 in
set_option maxHeartbeats 4000000 in
theorem Count_ok (P : Wm.Pr) (h9 : P.p ≤ 997) (n : Nat) (h1 : 1 ≤ n) (h6 : n ≤ 6) (w : World) :
    Calls Try.prog 15 #[.int .i64 P.p, .int .i64 n] w fun e w' => CntPost P.p n e ∧ Ext w w' := by
  have CK := hide (fun w : World => icheck_any P h9 n h1 h6 w)
  by_cases hb : 1000000 < Wm.pwN P.p n
  · rw [if_pos hb] at CK
    have HB := hide hb
    clear hb
    go_enter Try.func15, Try.ntmps15
    go_wp2_with fail
    refine (unhide CK _).mono ?_
    rintro e w1 ⟨rfl, k, rfl⟩
    go_wp2
    go_ret2
    exact ⟨.inl ⟨unhide HB, rfl⟩, (Ext.refl w).drewN k⟩
  · rw [if_neg hb] at CK
    have hp := P.pos
    have hpw := Wm.pwN_back hp n (by omega)
    have HPW := hide hpw
    have CD := hide (fun w : World => Divisors_ok n h1 (by omega) w)
    have HTL := hide (Wm.tl_len h1 h6)
    clear hb hpw
    go_enter Try.func15, Try.ntmps15
    go_wp2_with fail
    refine (unhide CK _).mono ?_
    rintro e w1 ⟨rfl, k, rfl⟩
    go_wp2_with fail
    refine (unhide CD _).mono ?_
    rintro e w2 ⟨⟨l, T, v, hfac, hperm, hsort, rfl, M⟩, E2⟩
    have hT := Wm.tl_is h1 h6 hfac hperm hsort
    subst hT
    have HE2 := hide (((Ext.refl w).drewN k).trans E2)
    obtain ⟨A, c, rfl, R, -, -, -⟩ := M.open_
    have HR := hide R
    obtain ⟨L, hL⟩ : ∃ L, L = (Wm.tl n).length := ⟨_, rfl⟩
    have HL := hide hL
    have hL4 : L ≤ 4 := by rw [hL]; exact (unhide HTL).2
    rw [← hL] at HR ⊢
    clear M R hfac hperm hsort E2 CD CK hL
    go_wp2
    go_loopw [9, 27] (fun s i wr => ∃ x : Nat, x ≤ L ∧ i = .int .i64 x ∧ s = .int .i64 (Wm.sG P.p n x) ∧ Hid (Ext w2 wr)) (fun _ i _ => L - (intOf i).toNat)
    case atStart => exact ⟨0, Nat.zero_le _, rfl, rfl, hide (Ext.refl _)⟩
    case round =>
      obtain ⟨x, hx, rfl, rfl, HEX⟩ := hrel
      by_cases hlt : x < L
      · obtain ⟨b, o, rfl, hb, hc⟩ := ((unhide HR).keep (unhide HEX)).nat hlt
        obtain ⟨d, hd⟩ : ∃ d, d = (Wm.tl n).getD x 0 := ⟨_, rfl⟩
        rw [← hd] at hc
        obtain ⟨hd1, hdn⟩ := Wm.tl_get h1 h6 (x := x) (by rw [← unhide HL]; exact hlt)
        rw [← hd] at hd1 hdn
        have CM := hide (fun w : World => Moebius_ok d hd1 (by omega) w)
        obtain ⟨q, hq⟩ : ∃ q, q = n / d := ⟨_, rfl⟩
        have hqI : (n : Int).tdiv (d : Int) = (q : Int) := by rw [hq]; rfl
        have hqI2 : (n : Int) / (d : Int) = (q : Int) := by rw [hq]; rfl
        have hqn : q ≤ n := by rw [hq]; exact Nat.div_le_self _ _
        have hpq : P.p ^ q ≤ 1000000 := Nat.le_trans (Nat.pow_le_pow_right hp hqn) (unhide HPW)
        have CP := hide (fun w : World => power_ok P h9 q (by omega) w)
        rw [Wm.pwN_small hp q hpq] at CP
        have hs := Wm.sG_small hp (unhide HPW) x
        have hms := Wm.mul_small (Wm.mu_small d) hpq
        have HST := hide (show Wm.sG P.p n (x + 1) = Wm.sG P.p n x + Wm.mu6 d * ((P.p ^ q : Nat) : Int) from by rw [hq, hd]; rfl)
        have hmu := Wm.mu_small d
        have HMU := hide (fun (l : List (Nat × Nat)) h => Wm.mu_is hd1 (show d ≤ 6 by omega) (l := l) h)
        have hd0 : ¬ (d : Int) = 0 := by omega
        have hd00 : ((d : Int) == 0) = false := by rw [beq_eq_false_iff_ne]; omega
        clear hd hq
        generalize P.p ^ q = pw at *
        generalize hS : Wm.sG P.p n x = S at *
        clear hS
        go_wp2_with fail
        refine (unhide CM _).mono ?_
        rintro e w3 ⟨⟨l', hl', rfl⟩, E3⟩
        have hmv := unhide HMU l' hl'
        rw [hmv]
        clear hmv hl'
        generalize Wm.mu6 d = mu at *
        obtain ⟨Z, hZ⟩ : ∃ Z, Z = mu * (pw : Int) := ⟨_, rfl⟩
        rw [← hZ] at hms HST
        have hZw : IntKind.i64.wrap (mu * (pw : Int)) = Z := by rw [← hZ]; exact IntWalk.i64_in Z (by omega)
        clear hZ
        have HE3 := hide ((unhide HEX).trans E3)
        go_wp2_with fail
        refine (unhide CP _).mono ?_
        rintro e w4 ⟨rfl, k4, rfl⟩
        go_wp2
        go_roundw
        case rel => exact ⟨x + 1, by omega, by go_num, by rw [unhide HST], hide ((unhide HE3).drewN _)⟩
        case measure => simp [intOf]; omega
      · obtain rfl : L = x := by omega
        have hs := Wm.sG_small hp (unhide HPW) L
        have HG := hide (show Wm.sG P.p n L = Wm.gG P.p n from by rw [unhide HL]; rfl)
        have n0 : ¬ (n : Int) = 0 := by omega
        have n00 : ((n : Int) == 0) = false := by rw [beq_eq_false_iff_ne]; omega
        have HC := hide (show (Wm.sG P.p n L).tdiv (n : Int) = Wm.ctI P.p n from by rw [unhide HG]; rfl)
        have hcl : (Wm.ctI P.p n).natAbs ≤ 4000000 := by
          rw [← unhide HC]
          have h1' := Int.natAbs_tdiv_le_natAbs (Wm.sG P.p n L) (n : Int)
          have : (Wm.sG P.p n L).natAbs ≤ 4000000 := by omega
          omega
        have HCT := hide (show CntPost P.p n (.returned (.tuple #[.int .i64 (Wm.ctI P.p n), .int .i64 0])) from .inr ⟨unhide HPW, rfl⟩)
        have hq := unhide HC
        have hE := (unhide HE2).trans (unhide HEX)
        generalize Wm.ctI P.p n = Cn at *
        generalize Wm.sG P.p n L = S at *
        go_wp2
        go_ret2
        exact ⟨unhide HCT, hE⟩

theorem ct_ex : Wm.ctI 2 3 = 2 := by decide +kernel
def PP2 : Wm.Pr := ⟨2, Wm.p2⟩
set_option maxRecDepth 100000 in
set_option maxHeartbeats 4000000 in
theorem imany_law (n k : Int) (w : World) :
    Calls Try.prog 4 #[.int .i64 n, .int .i64 k] w fun e w' => e = .returned (.bool true) ∧ Ext w w' := by
  have C0 := hide (fun w : World => Count_ok PP2 (by show 2 ≤ 997; omega) 3 (by omega) (by omega) w)
  have CF := hide (fun w : World => fieldOf_any n w)
  have CP := hide (fun w : World => polys_any w)
  obtain ⟨m', m0, m1, -, cM⟩ := within_ex k 6 (by omega) (by omega)
  obtain ⟨m', rfl⟩ := Int.eq_ofNat_of_zero_le m0
  obtain ⟨K, hK⟩ : ∃ K, K = 1 + m' := ⟨_, rfl⟩
  have hKI : (1 : Int) + (m' : Int) = (K : Int) := by omega
  have k1 : 1 ≤ K := by omega
  have k6 : K ≤ 6 := by omega
  clear hK
  go_enter Try.func4, Try.ntmps4
  go_wp2_with fail
  refine (unhide C0 _).mono ?_
  rintro e w1 ⟨ho, E1⟩
  rcases ho with ⟨hb, -⟩ | ⟨-, rfl⟩
  · exact absurd hb (by decide +kernel)
  have hct : Wm.ctI PP2.p 3 = 2 := ct_ex
  rw [hct]
  clear hct
  go_wp2_with fail
  refine (unhide CP _).mono ?_
  rintro e w2 ⟨rfl, E2⟩
  have HE2 := hide (E1.trans E2)
  clear E1 E2 C0 CP
  go_wp2_with fail
  refine (unhide CF _).mono ?_
  rintro e w3 ⟨⟨P, h9, rfl⟩, k3, rfl⟩
  have HE3 := hide ((unhide HE2).drewN k3)
  go_wp2_with fail
  refine (unhide cM _).mono ?_
  rintro e w4 ⟨rfl, rfl⟩
  have CK := hide (fun w : World => Count_ok P h9 K k1 k6 w)
  go_wp2_with fail
  refine (unhide CK _).mono ?_
  rintro e w5 ⟨ho, E5⟩
  have HE5 := hide ((unhide HE3).trans E5)
  clear E5 CK
  rcases ho with ⟨-, rfl⟩ | ⟨hpw, rfl⟩
  · go_wp2
    go_ret
    exact ⟨rfl, unhide HE5⟩
  · have hp := P.pos
    have hp2 := P.two
    have HPW := hide hpw
    clear hpw
    generalize Wm.ctI P.p K = Z0
    go_wp2
    go_loopw [10, 11, 12] (fun a q d wr => ∃ z : Nat, z ≤ K ∧ d = .int .i64 ((z + 1 : Nat) : Int) ∧ a = .int .i64 (Wm.aG P.p K z) ∧ q = .int .i64 ((P.p ^ z : Nat) : Int) ∧ Hid (Ext w wr)) (fun _ _ d _ => K + 1 - (intOf d).toNat)
    case atStart => exact ⟨0, Nat.zero_le _, rfl, rfl, by rw [Nat.pow_zero]; rfl, HE5⟩
    case round =>
      clear HE5
      obtain ⟨z, hz, rfl, rfl, rfl, HE5⟩ := hrel
      have hsm := Wm.aG_small hp2 (unhide HPW) k6 z hz
      by_cases hlt : z < K
      · obtain ⟨y, hy⟩ : ∃ y, y = z + 1 := ⟨_, rfl⟩
        have hyK : y ≤ K := by omega
        have hpy : P.p ^ y ≤ 1000000 := Nat.le_trans (Nat.pow_le_pow_right hp hyK) (unhide HPW)
        have CY := hide (fun w : World => Count_ok P h9 y (by omega) (by omega) w)
        have HNO := hide (show ¬ 1000000 < Wm.pwN P.p y by rw [Wm.pwN_small hp y hpy]; omega)
        have hpp : ((P.p ^ z : Nat) : Int) * (P.p : Int) = ((P.p ^ y : Nat) : Int) := by rw [hy, Nat.pow_succ]; push_cast; rfl
        have hyI : ((z : Int) + 1) = (y : Int) := by omega
        have hm : (K : Int).tmod (y : Int) = ((K % y : Nat) : Int) := rfl
        have hm2 : (K : Int) % (y : Int) = ((K % y : Nat) : Int) := rfl
        have hAG := hide (show Wm.aG P.p K y = if K % y = 0 then Wm.aG P.p K z + ((y : Nat) : Int) * Wm.ctI P.p y else Wm.aG P.p K z from by rw [hy]; rfl)
        have hct := hide (Wm.ctI_mul P.p (n := y) (by omega) (by omega))
        have hgp := hide (Wm.gG_pos (n := y) hp2 (by omega) (by omega))
        have hgl := hide (Wm.ctI_le (n := y) hp hpy (by omega) (by omega))
        have hcp := hide (Wm.ctI_pos (n := y) hp2 (by omega) (by omega))
        have hzz : z + 1 = y := hy.symm
        rw [hzz]
        have hpz : P.p ^ z ≤ 1000000 := Nat.le_trans (Nat.pow_le_pow_right hp hz) (unhide HPW)
        have hpw1 : IntKind.i64.wrap (((P.p ^ z : Nat) : Int) * (P.p : Int)) = ((P.p ^ y : Nat) : Int) := by rw [hpp]; exact IntWalk.i64_in _ (by omega)
        have hy0 : ¬ (y : Int) = 0 := by omega
        have hy00 : ((y : Int) == 0) = false := by rw [beq_eq_false_iff_ne]; omega
        have hyk : (y : Int) ≤ (K : Int) := by omega
        clear hy hyI hzz
        generalize Wm.aG P.p K z = S at *
        generalize hQ : P.p ^ z = Q at *
        generalize hQ2 : P.p ^ y = Q2 at *
        have HQ2 := hide hQ2
        clear hQ hQ2
        by_cases hmod : K % y = 0
        · rw [hmod] at hm hm2
          rw [hmod, if_pos rfl] at hAG
          rw [show (((0 : Nat) : Int)) = 0 from rfl] at hm hm2
          clear hmod
          go_wp2_with fail
          refine (unhide CY _).mono ?_
          rintro e w6 ⟨ho, E6⟩
          have HE6 := hide ((unhide HE5).trans E6)
          clear E6 CY
          rcases ho with ⟨hb, -⟩ | ⟨-, rfl⟩
          · exact absurd hb (unhide HNO)
          have hcp1 := unhide hcp
          have hG1 := unhide hgp
          have hG2 := unhide hgl
          rw [← unhide hct] at hG1 hG2
          obtain ⟨Y, hY⟩ : ∃ Y, Y = (y : Int) * Wm.ctI P.p y := ⟨_, rfl⟩
          rw [← hY] at hG1 hG2 hAG
          have hcl : Wm.ctI P.p y ≤ Y := by
            rw [hY]
            have := Int.mul_le_mul_of_nonneg_right (a := 1) (b := (y : Int)) (c := Wm.ctI P.p y) (by omega) (by omega)
            omega
          have hYw : IntKind.i64.wrap ((y : Int) * Wm.ctI P.p y) = Y := by rw [← hY]; exact IntWalk.i64_in _ (by omega)
          clear hY hct hgp hgl hcp
          generalize Wm.ctI P.p y = C at *
          go_wp2
          go_roundw
          case rel => exact ⟨y, by omega, by go_num, by rw [unhide hAG], by rw [unhide HQ2], HE6⟩
          case measure => simp [intOf]; omega
        · rw [if_neg hmod] at hAG
          have hmB : (((K % y : Nat) : Int) == 0) = false := by rw [beq_eq_false_iff_ne]; omega
          have hmN : ¬ ((K % y : Nat) : Int) = 0 := by omega
          generalize ((K % y : Nat) : Int) = r at *
          go_wp2
          go_roundw
          case rel => exact ⟨y, by omega, by go_num, by rw [unhide hAG], by rw [unhide HQ2], HE5⟩
          case measure => simp [intOf]; omega
      · obtain rfl : K = z := by omega
        have hfin := Wm.aG_all P.p k1 k6
        rw [hfin]
        generalize P.p ^ K = Q at *
        have hKI2 : ¬ (((K + 1 : Nat) : Int) ≤ (K : Int)) := by omega
        go_wp2
        go_ret
        exact ⟨rfl, unhide HE5⟩
end Go.Proofs.Ytahchidghfeofaa

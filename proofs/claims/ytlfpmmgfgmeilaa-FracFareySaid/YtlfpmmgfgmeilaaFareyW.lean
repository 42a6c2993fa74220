/-
  The walk of the law FracFarey.
-/
import Derived.Test.YtlfpmmgfgmeilaaFarey4
import Derived.BigQuiet
set_option linter.unusedVariables false
set_option linter.unusedSimpArgs false
namespace Wm
open Go.Proofs Go.Proofs.Ytlfpmmgfgmeilaa
theorem phT_le {q : Nat} (h1 : 1 ≤ q) (h30 : q ≤ 30) : phT q ≤ q := by
  have F := (okF h1 h30).fac
  have := Go.Proofs.Ytlfpmmgfgmeilaa.nphi_le F.2.1
  rw [F.2.2] at this
  exact this
theorem sumPh_le : ∀ n, n ≤ 30 → sumPh n ≤ 1 + n * 30
  | 0, _ => by simp [sumPh]
  | n + 1, h => by
    have h1 := sumPh_le n (by omega)
    have h2 := phT_le (q := n + 1) (by omega) h
    simp only [sumPh]
    omega
theorem srt_bound {n : Nat} (h1 : 1 ≤ n) (h30 : n ≤ 30) (i : Nat) (hi : i < (srtF n).length) : gP (srtF n) i ≤ 30 ∧ gQ (srtF n) i ≤ 30 := by
  have := (okF h1 h30).bound _ ((srtF_perm n).mem_iff.1 (getD_mem (srtF n) (0, 0) hi))
  exact ⟨this.1, this.2.2⟩
theorem srt_two {n : Nat} (h1 : 1 ≤ n) (h30 : n ≤ 30) : 2 ≤ (srtF n).length := by
  rw [(okF h1 h30).len]
  have : ∀ m, 2 ≤ sumPh (m + 1) := fun m => by
    induction m with
    | zero => decide +kernel
    | succ m ih => simp only [sumPh] at ih ⊢; omega
  have := this (n - 1)
  rwa [show n - 1 + 1 = n by omega] at this
theorem med_int {X U P0 Q0 P1 Q1 : Nat} (h1 : P0 * U = X * Q0 + 1) (h2 : P1 * Q0 = P0 * Q1 + 1) : ((X : Int) + P1) * Q0 = ((U : Int) + Q1) * P0 := by
  have h1' : (P0 : Int) * U = X * Q0 + 1 := by exact_mod_cast h1
  have h2' : (P1 : Int) * Q0 = P0 * Q1 + 1 := by exact_mod_cast h2
  rw [Int.add_mul, Int.add_mul, Int.mul_comm (U : Int), Int.mul_comm (Q1 : Int)]
  omega
end Wm
namespace Go.Proofs.Ytlfpmmgfgmeilaa
open Go.RowKit Go.BigFrame

set_option maxRecDepth 100000 in
set_option maxHeartbeats 1000000 in
theorem equal_frac (A B : Option Addr) (n c d : Nat) (l : List (Int × Int)) (w : World) (R : Row w A n 2 (prs l)) (S : Row w B n 2 (prs l)) (hn : (n : Int) ≤ 9223372036854775807) :
    Calls Try.prog 5 #[.slice A n c, .slice B n d] w fun e w' => e = .returned (.bool true) ∧ ∃ k, w' = w.drewN k := by
  have hne : ∀ (x y : Int) (w : World), (binOp .neq 28 (.agg #[.int .i64 x, .int .i64 y]) (.agg #[.int .i64 x, .int .i64 y])).run Try.prog w = .ok (.bool false) w := by
    intro x y w
    have h1 := Try.underlying28
    have h2 := Try.underlying3
    rw [run_neq_struct]
    simp [go_sem, h1, h2]
  have HR := hide R
  have HS := hide S
  clear R S
  go_enter Try.func5, Try.ntmps5
  go_wp2
  go_loopw [13] (fun i wr => ∃ k : Nat, k ≤ n ∧ i = .int .i64 k ∧ ∃ q, wr = w.drewN q) (fun i _ => n - (intOf i).toNat)
  case atStart => exact ⟨0, by omega, rfl, 0, rfl⟩
  case round =>
    obtain ⟨k, hk, rfl, q, rfl⟩ := hrel
    by_cases hlt : k < n
    · obtain ⟨b, o, rfl, hb, c1, c2⟩ := (unhide HR).pair hlt
      obtain ⟨b', o', rfl, hb', d1, d2⟩ := (unhide HS).pair hlt
      have hk0 : (0 : Int) ≤ (k : Int) := by omega
      have hk1 : (k : Int) < (n : Int) := by omega
      generalize (l.getD k (0, 0)).1 = x at *
      generalize (l.getD k (0, 0)).2 = y at *
      go_wp2
      go_quiet (fail)
      go_wp2
      go_roundw
      case rel => exact ⟨k + 1, by omega, by go_num, _, rfl⟩
      case measure => simp [intOf]; omega
    · obtain rfl : k = n := by omega
      go_wp2
      go_ret
      exact ⟨rfl, _, rfl⟩

theorem Phi_far {q : Nat} (h1 : 1 ≤ q) (h30 : q ≤ 30) (w : World) : Calls Try.prog 7 #[.int .i64 q] w fun e w' => e = .returned (.tuple #[.int .i64 (Wm.phT q), .int .i64 0]) ∧ Ext w w' :=
  (Phi_ok q h1 (by omega) w).mono fun e w' ⟨⟨l, h1', h2⟩, hx⟩ => by
    obtain rfl := Wm.fac_unique h1' (Wm.okF h1 h30).fac
    exact ⟨h2, hx⟩
theorem far3 : castF (Wm.srtF 3) = [(0, 1), (1, 3), (1, 2), (2, 3), (1, 1)] := by decide +kernel
theorem Farey_A (n : Nat) (h1 : 1 ≤ n) (h30 : n ≤ 30) (w : World) :
    Calls Try.prog 4 #[.int .i64 n] w fun e w' => (∃ A : Option Addr, e = .returned (.tuple #[.slice A (Wm.srtF n).length (Wm.srtF n).length, .int .i64 0]) ∧ Row w' A (Wm.srtF n).length 2 (prs (castF (Wm.srtF n)))) ∧ Ext w w' :=
  (Farey_ok n h1 h30 w).mono fun e w' ⟨⟨g, h1, h2⟩, h3⟩ => ⟨⟨_, h1, h2⟩, h3⟩

set_option maxRecDepth 100000 in
set_option maxHeartbeats 4000000 in
theorem ffarey_law (n0 : Int) (w : World) : Calls Try.prog 3 #[.int .i64 n0] w fun e w' => e = .returned (.bool true) ∧ Ext w w' := by
  obtain ⟨n', k0, k1, -, cN⟩ := within_ex n0 30 (by omega) (by omega)
  obtain ⟨n', rfl⟩ := Int.eq_ofNat_of_zero_le k0
  obtain ⟨n, hn⟩ : ∃ n, n = 1 + n' := ⟨_, rfl⟩
  have hnI : (1 : Int) + (n' : Int) = (n : Int) := by omega
  have h1 : 1 ≤ n := by omega
  have h30 : n ≤ 30 := by omega
  clear hn
  have CF3 := hide (fun w => Farey_ok 3 (by omega) (by omega) w)
  rw [far3, show (Wm.srtF 3).length = 5 from by decide +kernel] at CF3
  have CFN := hide (fun w => Farey_A n h1 h30 w)
  have CP := hide (fun (q : Nat) (h1 : 1 ≤ q) (h30 : q ≤ 30) w => Phi_far (q := q) h1 h30 w)
  have HO := hide (Wm.okF h1 h30)
  have HLen := hide (Wm.okF h1 h30).len
  have h2 := Wm.srt_two h1 h30
  have hL9 : (Wm.srtF n).length ≤ 901 := by rw [unhide HLen]; have := Wm.sumPh_le n h30; omega
  have HB := hide (fun (i : Nat) (hi : i < (Wm.srtF n).length) => Wm.srt_bound h1 h30 i hi)
  have HN := hide (fun (i : Nat) (hi : i + 1 < (Wm.srtF n).length) => Wm.nextB_spec (Wm.okF h1 h30).next i hi)
  have hcl := castF_length (Wm.srtF n)
  have HG := hide (fun k hk => castF_get (Wm.srtF n) (k := k) hk)
  generalize (Wm.srtF n).length = L at *
  go_enter Try.func3, Try.ntmps3
  go_wp2_with fail
  refine (unhide CF3 _).mono ?_
  rintro e w1 ⟨⟨g3, rfl, R3⟩, E1⟩
  have CE := hide (fun (W : World) (E : Ext w1 W) (b : Nat) (S : Row W (some ⟨b, 0, none⟩) 5 2 (prs [(0, 1), (1, 3), (1, 2), (2, 3), (1, 1)])) => equal_frac (some ⟨g3, 0, none⟩) (some ⟨b, 0, none⟩) 5 5 5 _ W (R3.keep E) S (by omega))
  have HE1 := hide E1
  clear E1 R3 CF3
  go_wp2_with fail
  refine (unhide CE _ (by repeat (first | exact Ext.refl _ | assumption | refine Ext.alloc ?_ _ | refine Ext.drew ?_ | refine Ext.drewN ?_ _ | refine Ext.trans ?_ ‹Ext _ _›)) _ (row_new w1 #[.int .i64 0, .int .i64 1, .int .i64 1, .int .i64 3, .int .i64 1, .int .i64 2, .int .i64 2, .int .i64 3, .int .i64 1, .int .i64 1] 28 5 2 rfl)).mono ?_
  rintro e w2 ⟨rfl, k, rfl⟩
  clear CE
  go_wp2_with fail
  refine (unhide cN _).mono ?_
  rintro e w3 ⟨rfl, rfl⟩
  go_wp2_with fail
  refine (unhide CFN _).mono ?_
  rintro e w4 ⟨⟨A, rfl, R⟩, E4⟩
  have HE4 := hide ((unhide HE1).trans (Ext.trans (by repeat (first | exact Ext.refl _ | assumption | refine Ext.alloc ?_ _ | refine Ext.drew ?_ | refine Ext.drewN ?_ _ | refine Ext.trans ?_ ‹Ext _ _›)) E4))
  clear E4 HE1 CFN cN
  have HR := hide R
  clear R
  go_wp2
  go_loopw [7] (fun i wr => ∃ x : Nat, 1 ≤ x ∧ x ≤ L ∧ i = .int .i64 x ∧ Hid (Ext w4 wr)) (fun i _ => L - (intOf i).toNat)
  case atStart => exact ⟨1, Nat.le_refl _, by omega, rfl, hide (Ext.refl _)⟩
  case round =>
    obtain ⟨x, hx1, hxL, rfl, HEX⟩ := hrel
    by_cases hlt : x < L
    · obtain ⟨y, hy⟩ : ∃ y, y = x - 1 := ⟨_, rfl⟩
      have hyI : (x : Int) - 1 = (y : Int) := by omega
      have hyL : y < L := by omega
      obtain ⟨b, o, rfl, hb, c1, c2⟩ := ((unhide HR).keep (unhide HEX)).pair hlt
      obtain ⟨b', o', hbo, -, d1, d2⟩ := ((unhide HR).keep (unhide HEX)).pair hyL
      injection hbo with hbo
      injection hbo with hbo1 hbo2
      subst hbo1; subst hbo2
      rw [unhide HG x hlt] at c1 c2
      rw [unhide HG y hyL] at d1 d2
      have n1 := unhide HN y (by omega)
      rw [show y + 1 = x by omega] at n1
      have b1 := unhide HB x hlt
      have b2 := unhide HB y hyL
      have hP1 : ((Wm.srtF n).getD x (0, 0)).1 = Wm.gP (Wm.srtF n) x := rfl
      have hQ1 : ((Wm.srtF n).getD x (0, 0)).2 = Wm.gQ (Wm.srtF n) x := rfl
      have hP0 : ((Wm.srtF n).getD y (0, 0)).1 = Wm.gP (Wm.srtF n) y := rfl
      have hQ0 : ((Wm.srtF n).getD y (0, 0)).2 = Wm.gQ (Wm.srtF n) y := rfl
      simp only [hP1, hQ1] at c1 c2
      simp only [hP0, hQ0] at d1 d2
      clear hP1 hQ1 hP0 hQ0
      have HMED := hide (fun (X U : Nat) (h : Wm.gP (Wm.srtF n) y * U = X * Wm.gQ (Wm.srtF n) y + 1) => Wm.med_int h n1)
      by_cases hx2 : x = 1
      · have hgd : decide ((1 : Int) < (x : Int)) = false := decide_eq_false (by omega)
        generalize Wm.gP (Wm.srtF n) x = P1 at *
        generalize Wm.gQ (Wm.srtF n) x = Q1 at *
        generalize Wm.gP (Wm.srtF n) y = P0 at *
        generalize Wm.gQ (Wm.srtF n) y = Q0 at *
        obtain ⟨M1, hM1⟩ : ∃ M1, M1 = P1 * Q0 := ⟨_, rfl⟩
        obtain ⟨M2, hM2⟩ : ∃ M2, M2 = P0 * Q1 := ⟨_, rfl⟩
        have hM9 : M1 ≤ 30 * 30 := by rw [hM1]; exact Nat.mul_le_mul b1.1 b2.2
        have hM12 : (M1 : Int) = (M2 : Int) + 1 := by omega
        have hw1 : IntKind.i64.wrap ((P1 : Int) * (Q0 : Int)) = (M1 : Int) := by rw [hM1]; push_cast; exact IntWalk.i64_in _ (by rw [← Int.natCast_mul, ← hM1]; omega)
        have hw2 : IntKind.i64.wrap ((P0 : Int) * (Q1 : Int)) = (M2 : Int) := by rw [hM2]; push_cast; exact IntWalk.i64_in _ (by rw [← Int.natCast_mul, ← hM2]; omega)
        have hm1 : (P1 : Int) * (Q0 : Int) = (M1 : Int) := by rw [hM1]; push_cast; rfl
        have hm2 : (P0 : Int) * (Q1 : Int) = (M2 : Int) := by rw [hM2]; push_cast; rfl
        clear hM1 hM2 n1 hy hx2
        have hne : ((M1 : Int) - (M2 : Int) != 1) = false := by rw [bne_eq_false_iff_eq]; omega
        go_wp2
        go_quiet (fail)
        go_wp2
        go_quiet (fail)
        go_wp2
        go_roundw
        case rel => exact ⟨x + 1, by omega, by omega, by go_num, hide ((unhide HEX).trans (by repeat (first | exact Ext.refl _ | assumption | refine Ext.alloc ?_ _ | refine Ext.drew ?_ | refine Ext.drewN ?_ _ | refine Ext.trans ?_ ‹Ext _ _›)))⟩
        case measure => simp [intOf]; omega
      · obtain ⟨v, hv⟩ : ∃ v, v = x - 2 := ⟨_, rfl⟩
        have hvI : (x : Int) - 2 = (v : Int) := by omega
        have hvL : v < L := by omega
        obtain ⟨b'', o'', hbo, -, e1, e2⟩ := ((unhide HR).keep (unhide HEX)).pair hvL
        injection hbo with hbo
        injection hbo with hbo1 hbo2
        subst hbo1; subst hbo2
        rw [unhide HG v hvL] at e1 e2
        have b3 := unhide HB v hvL
        have n2 := unhide HN v (by omega)
        rw [show v + 1 = y by omega] at n2
        have hPv : ((Wm.srtF n).getD v (0, 0)).1 = Wm.gP (Wm.srtF n) v := rfl
        have hQv : ((Wm.srtF n).getD v (0, 0)).2 = Wm.gQ (Wm.srtF n) v := rfl
        simp only [hPv, hQv] at e1 e2
        clear hPv hQv
        have hmed := unhide HMED _ _ n2
        clear HMED n2
        have hgd : decide ((1 : Int) < (x : Int)) = true := decide_eq_true (by omega)
        generalize Wm.gP (Wm.srtF n) x = P1 at *
        generalize Wm.gQ (Wm.srtF n) x = Q1 at *
        generalize Wm.gP (Wm.srtF n) y = P0 at *
        generalize Wm.gQ (Wm.srtF n) y = Q0 at *
        generalize Wm.gP (Wm.srtF n) v = X at *
        generalize Wm.gQ (Wm.srtF n) v = U at *
        obtain ⟨M1, hM1⟩ : ∃ M1, M1 = P1 * Q0 := ⟨_, rfl⟩
        obtain ⟨M2, hM2⟩ : ∃ M2, M2 = P0 * Q1 := ⟨_, rfl⟩
        have hM9 : M1 ≤ 30 * 30 := by rw [hM1]; exact Nat.mul_le_mul b1.1 b2.2
        have hM12 : (M1 : Int) = (M2 : Int) + 1 := by omega
        have hm1 : (P1 : Int) * (Q0 : Int) = (M1 : Int) := by rw [hM1]; push_cast; rfl
        have hm2 : (P0 : Int) * (Q1 : Int) = (M2 : Int) := by rw [hM2]; push_cast; rfl
        have hw1 : IntKind.i64.wrap ((P1 : Int) * (Q0 : Int)) = (M1 : Int) := by rw [hm1]; exact IntWalk.i64_in _ (by omega)
        have hw2 : IntKind.i64.wrap ((P0 : Int) * (Q1 : Int)) = (M2 : Int) := by rw [hm2]; exact IntWalk.i64_in _ (by omega)
        obtain ⟨M3, hM3⟩ : ∃ M3, M3 = (X + P1) * Q0 := ⟨_, rfl⟩
        have hM39 : M3 ≤ 60 * 30 := by rw [hM3]; exact Nat.mul_le_mul (by omega) b2.2
        have hm3 : ((X : Int) + (P1 : Int)) * (Q0 : Int) = (M3 : Int) := by rw [hM3]; push_cast; rfl
        have hm4 : ((U : Int) + (Q1 : Int)) * (P0 : Int) = (M3 : Int) := by rw [← hmed, hm3]
        have hw3 : IntKind.i64.wrap (((X : Int) + (P1 : Int)) * (Q0 : Int)) = (M3 : Int) := by rw [hm3]; exact IntWalk.i64_in _ (by omega)
        have hw4 : IntKind.i64.wrap (((U : Int) + (Q1 : Int)) * (P0 : Int)) = (M3 : Int) := by rw [hm4]; exact IntWalk.i64_in _ (by omega)
        have hne : ((M1 : Int) - (M2 : Int) != 1) = false := by rw [bne_eq_false_iff_eq]; omega
        clear hM1 hM2 hM3 n1 hy hx2 hv hmed hm1 hm2 hm3 hm4
        go_wp2
        go_quiet (fail)
        go_wp2
        go_quiet (fail)
        go_wp2
        go_roundw
        case rel => exact ⟨x + 1, by omega, by omega, by go_num, hide ((unhide HEX).trans (by repeat (first | exact Ext.refl _ | assumption | refine Ext.alloc ?_ _ | refine Ext.drew ?_ | refine Ext.drewN ?_ _ | refine Ext.trans ?_ ‹Ext _ _›)))⟩
        case measure => simp [intOf]; omega
    · obtain rfl : L = x := by omega
      have HE5 := hide ((unhide HE4).trans (unhide HEX))
      clear HR HB HN HG HE4 HEX hlt hx1 hxL hcl
      go_wp2
      go_loopw [8, 9] (fun m q wr => ∃ i : Nat, i ≤ n ∧ q = .int .i64 ((i + 1 : Nat) : Int) ∧ m = .int .i64 (Wm.sumPh i) ∧ Hid (Ext w wr)) (fun _ q _ => n + 1 - (intOf q).toNat)
      case atStart => exact ⟨0, Nat.zero_le _, rfl, rfl, HE5⟩
      case round =>
        obtain ⟨i, hi, rfl, rfl, HE⟩ := hrel
        by_cases hlt : i < n
        · obtain ⟨q, hq⟩ : ∃ q, q = i + 1 := ⟨_, rfl⟩
          rw [← hq]
          have hqn : (q : Int) ≤ (n : Int) := by omega
          have hph := Wm.phT_le (q := q) (by omega) (by omega)
          have hsp := Wm.sumPh_le i (by omega)
          have C := hide (fun w => unhide CP q (by omega) (by omega) w)
          have HST := hide (show Wm.sumPh q = Wm.sumPh i + Wm.phT q from by rw [hq]; rfl)
          have hqi : ¬ q = 0 ∧ q ≤ n ∧ n + 1 - q < n + 1 - i ∧ 1 ≤ q := by omega
          have HMS := hide (show n + 1 - (q + 1) < n + 1 - q from by omega)
          clear hq
          generalize Wm.phT q = P at *
          generalize Wm.sumPh i = S at *
          go_wp2_with fail
          refine (unhide C _).mono ?_
          rintro e w5 ⟨rfl, E5⟩
          have HE5 := hide ((unhide HE).trans E5)
          go_wp2
          go_roundw
          case rel => exact ⟨q, hqi.2.1, by go_num, by rw [unhide HST]; go_num, HE5⟩
          case measure => simp [intOf]; omega
        · obtain rfl : n = i := by omega
          have hLs := unhide HLen
          have hnn : ¬ (((n + 1 : Nat) : Int) ≤ (n : Int)) := by omega
          rw [← hLs]
          go_wp2
          go_ret
          exact ⟨rfl, unhide HE⟩
end Go.Proofs.Ytlfpmmgfgmeilaa

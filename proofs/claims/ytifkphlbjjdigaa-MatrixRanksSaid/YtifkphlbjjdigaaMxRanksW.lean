/-
  The walk of the law MatrixRanks.
-/
import Derived.Test.YtifkphlbjjdigaaMxBinetW
set_option linter.unusedVariables false
set_option linter.unusedSimpArgs false
namespace Go.Proofs.Ytifkphlbjjdigaa
open Go.RowKit Go.BigFrame Wm.Fld

set_option maxRecDepth 100000 in
set_option maxHeartbeats 4000000 in
theorem ranks_law (A : Option Addr) (n c : Nat) (ra : Nat → Option Addr) (ln cp : Nat → Nat) (M : Nat → Nat → Nat) (B : Option Addr) (n2 c2 : Nat) (rb : Nat → Option Addr) (ln2 cp2 : Nat → Nat) (N : Nat → Nat → Nat) (w : World)
    (T : Tab w A n ra ln cp M) (hn : n ≤ 4611686018427387904) (S : Tab w B n2 rb ln2 cp2 N) (hn2 : n2 ≤ 4611686018427387904) :
    Calls Try.prog 5 #[.slice A n c, .slice B n2 c2] w fun e w' => e = .returned (.bool true) ∧ Ext w w' := by
  have HT := hide T
  have HS := hide S
  have CT := hide (tables_any w)
  clear T S
  go_enter Try.func5, Try.ntmps5
  go_wp2_with fail
  refine (unhide CT).mono ?_
  rintro e w1 ⟨rfl, E1⟩
  have HE1 := hide E1
  have CA := hide (Rank_any A n c ra ln cp M w1 ((unhide HT).keep E1) hn)
  clear CT E1
  go_wp2_with fail
  refine (unhide CA).mono ?_
  rintro e w2 ⟨ho1, E2⟩
  have HE2 := hide ((unhide HE1).trans E2)
  have CB := hide (Rank_any B n2 c2 rb ln2 cp2 N w2 ((unhide HS).keep (unhide HE2)) hn2)
  clear CA E2
  -- the three answers
  have hans1 : ∃ (x : Nat) (r1 : Int), e = .returned (.tuple #[.int .i64 (x : Int), .int .i64 r1]) ∧ r1 = chkM n ln ∧ (r1 ≠ 0 → x = 0) ∧ (r1 = 0 → Rk n (ln 0) x (Wm.m8m M)) := by
    rcases ho1 with ⟨hne, rfl⟩ | ⟨he, x, rfl, hr⟩
    · exact ⟨0, _, rfl, rfl, fun _ => rfl, fun h => absurd h hne⟩
    · exact ⟨x, 0, rfl, he.symm, fun h => absurd rfl h, fun _ => hr⟩
  obtain ⟨x, r1, rfl, hr1, hx0, hxr⟩ := hans1
  have HR1 := hide hr1
  have HX0 := hide hx0
  have HXR := hide hxr
  clear ho1 hr1 hx0 hxr
  go_wp2_with fail
  refine (unhide CB).mono ?_
  rintro e w3 ⟨ho2, E3⟩
  have HE3 := hide ((unhide HE2).trans E3)
  clear CB E3
  have hans2 : ∃ (y : Nat) (r2 : Int), e = .returned (.tuple #[.int .i64 (y : Int), .int .i64 r2]) ∧ r2 = chkM n2 ln2 ∧ (r2 = 0 → Rk n2 (ln2 0) y (Wm.m8m N)) := by
    rcases ho2 with ⟨hne, rfl⟩ | ⟨he, y, rfl, hr⟩
    · exact ⟨0, _, rfl, rfl, fun h => absurd h hne⟩
    · exact ⟨y, 0, rfl, he.symm, fun _ => hr⟩
  obtain ⟨y, r2, rfl, hr2, hyr⟩ := hans2
  have HR2 := hide hr2
  have HYR := hide hyr
  clear ho2 hr2 hyr
  have CM := hide (MMul_any A n c ra ln cp M B n2 c2 rb ln2 cp2 N w3 ((unhide HT).keep (unhide HE3)) ((unhide HS).keep (unhide HE3)) hn hn2)
  go_wp2_with fail
  refine (unhide CM).mono ?_
  rintro e w4 ⟨ho3, E4⟩
  have HE4 := hide ((unhide HE3).trans E4)
  clear CM E4
  rcases ho3 with ⟨hne, rfl⟩ | ⟨he3, d1, d2, d3, g1, bl1, cq1, rfl, TM⟩
  · have hB1 : (mulErr n ln n2 ln2 != 0) = true := by rw [bne_iff_ne]; exact hne
    generalize mulErr n ln n2 ln2 = r3 at *
    by_cases hr0 : r1 = 0
    · subst hr0
      by_cases hr20 : r2 = 0
      · subst hr20
        go_wp2
        go_ret
        exact ⟨rfl, unhide HE4⟩
      · have hB2 : (r2 != 0) = true := by rw [bne_iff_ne]; exact hr20
        go_wp2
        go_ret
        exact ⟨rfl, unhide HE4⟩
    · have hB2 : (r1 != 0) = true := by rw [bne_iff_ne]; exact hr0
      have hB3 : (r1 == 0) = false := by rw [beq_eq_false_iff_ne]; exact hr0
      obtain rfl := unhide HX0 hr0
      go_wp2
      go_ret
      exact ⟨rfl, unhide HE4⟩
  · obtain rfl : r1 = 0 := by rw [unhide HR1, d1]
    obtain rfl : r2 = 0 := by rw [unhide HR2, d2]
    have hrx := unhide HXR rfl
    have hry := unhide HYR rfl
    obtain ⟨a1, a2, a3, a4, a5⟩ := chkM_ok d1
    obtain ⟨b1, b2, b3, b4, b5⟩ := chkM_ok d2
    obtain ⟨l, hl⟩ : ∃ l, l = ln 0 := ⟨_, rfl⟩
    obtain ⟨m, hm⟩ : ∃ m, m = ln2 0 := ⟨_, rfl⟩
    have HL := hide hl
    have HM := hide hm
    rw [← hl] at hrx d3 a3 a4
    rw [← hm] at hry b3 b4 TM
    subst d3
    have CZ := hide (Rank_any _ n n _ _ _ _ w4 TM.tab hn)
    have D1 := hide d1
    have hxn := hrx.rows
    have hxl := hrx.cols
    obtain ⟨ba, oa, rfl, hba, hca⟩ := (unhide HT).hd (by omega)
    have hc0 := hca 0 (by omega)
    rw [Nat.add_zero, ← hl] at hc0
    have HC0 := hide hc0
    have HRX := hide hrx
    have HRY := hide hry
    clear TM he3 d1 d2 a5 b5 hca hc0 hl hm hrx hry HX0 HXR HYR
    go_wp2_with fail
    refine (unhide CZ).mono ?_
    rintro e w5 ⟨ho4, E5⟩
    have HE5 := hide ((unhide HE4).trans E5)
    clear CZ E5
    rcases ho4 with ⟨hne, -⟩ | ⟨-, zz, rfl, hrz⟩
    · exact absurd (chkM_const a1 a2 b3 b4) hne
    rw [Wm.mulT_mm (unhide HT).lt (unhide HS).lt] at hrz
    have hz1 := (unhide HRX).left hrz
    have hz2 := (unhide HRY).right hrz
    have hz3 := (unhide HRX).both (unhide HRY) hrz
    have CU := hide (turned_ok (some ⟨ba, oa, none⟩) n c ra ln cp M w5 ((unhide HT).keep (unhide HE5)) (unhide D1))
    rw [← unhide HL] at CU
    clear hrz
    go_wp2_with fail
    refine (unhide CU).mono ?_
    rintro e w6 ⟨⟨g2, cg2, bl2, cq2, rfl, TU⟩, E6⟩
    have HE6 := hide ((unhide HE5).trans E6)
    have CW := hide (Rank_any _ n2 cg2 _ _ _ _ w6 TU.tab (by omega))
    clear CU TU E6
    go_wp2_with fail
    refine (unhide CW).mono ?_
    rintro e w7 ⟨ho5, E7⟩
    have HE7 := hide ((unhide HE6).trans E7)
    clear CW E7
    rcases ho5 with ⟨hne, -⟩ | ⟨-, u, rfl, hru⟩
    · exact absurd (chkM_const a3 a4 a1 a2) hne
    obtain rfl : u = x := by
      rw [m8m_tr] at hru
      exact hru.unique (unhide HRX).turn
    have hc7 := (unhide HE7).keep (unhide HC0)
    have hcg := ((Ext.refl w7).alloc (.cells #[.int .i64 0, .int .i64 0] 23)).keep hc7
    have i1 : (zz : Int) ≤ (u : Int) := by omega
    have i2 : (zz : Int) ≤ (y : Int) := by omega
    have i3 : ((u : Int) + (y : Int) - (n2 : Int)) ≤ (zz : Int) := by omega
    have i4 : (u : Int) ≤ (n : Int) := by omega
    have i5 : (u : Int) ≤ (n2 : Int) := by omega
    have i6 : IntKind.i64.wrap ((u : Int) + (y : Int)) = (u : Int) + (y : Int) := IntWalk.i64_in _ (by omega)
    have i7 : IntKind.i64.wrap ((u : Int) + (y : Int) - (n2 : Int)) = (u : Int) + (y : Int) - (n2 : Int) := IntWalk.i64_in _ (by omega)
    clear hru hz1 hz2 hz3
    generalize ra 0 = r0 at *
    generalize cp 0 = c0 at *
    by_cases hmin : n2 < n
    · have hminI : (n2 : Int) < (n : Int) := by omega
      go_wp2_with (go_at_call 15; refine (good_made' [0, 0] _ _ _ _ w7 rfl rfl (by decide) (by simp)).mono ?_; rintro e wg ⟨rfl, rfl⟩)
      go_ret
      exact ⟨rfl, (unhide HE7).alloc _⟩
    · have hminI : ¬ (n2 : Int) < (n : Int) := by omega
      go_wp2_with (go_at_call 15; refine (good_made' [0, 0] _ _ _ _ w7 rfl rfl (by decide) (by simp)).mono ?_; rintro e wg ⟨rfl, rfl⟩)
      go_ret
      exact ⟨rfl, (unhide HE7).alloc _⟩
end Go.Proofs.Ytifkphlbjjdigaa

/-
  The walk of the law MatrixBinet.
-/
import Derived.Test.YtifkphlbjjdigaaMx7
set_option linter.unusedVariables false
set_option linter.unusedSimpArgs false
namespace Go.Proofs.Ytifkphlbjjdigaa
open Go.RowKit Go.BigFrame Wm.Fld

theorem detErr_const {n : Nat} (h1 : 1 ≤ n) (h2 : n ≤ 12) : detErr n (fun _ => n) = 0 := by
  unfold detErr
  rw [if_neg (by rw [chkM_const h1 h2 h1 h2]; decide), if_neg (by simp)]

set_option maxRecDepth 100000 in
set_option maxHeartbeats 4000000 in
theorem binet_law (A : Option Addr) (n c : Nat) (ra : Nat → Option Addr) (ln cp : Nat → Nat) (M : Nat → Nat → Nat) (B : Option Addr) (n2 c2 : Nat) (rb : Nat → Option Addr) (ln2 cp2 : Nat → Nat) (N : Nat → Nat → Nat) (w : World)
    (T : Tab w A n ra ln cp M) (hn : n ≤ 4611686018427387904) (S : Tab w B n2 rb ln2 cp2 N) (hn2 : n2 ≤ 4611686018427387904) :
    Calls Try.prog 4 #[.slice A n c, .slice B n2 c2] w fun e w' => e = .returned (.bool true) ∧ Ext w w' := by
  have HT := hide T
  have HS := hide S
  have CT := hide (tables_any w)
  clear T S
  go_enter Try.func4, Try.ntmps4
  go_wp2_with fail
  refine (unhide CT).mono ?_
  rintro e w1 ⟨rfl, E1⟩
  have HE1 := hide E1
  have CA := hide (Det_any A n c ra ln cp M w1 ((unhide HT).keep E1) hn)
  clear CT E1
  go_wp2_with fail
  refine (unhide CA).mono ?_
  rintro e w2 ⟨ho1, E2⟩
  have HE2 := hide ((unhide HE1).trans E2)
  have CB := hide (Det_any B n2 c2 rb ln2 cp2 N w2 ((unhide HS).keep (unhide HE2)) hn2)
  clear CA E2
  rcases ho1 with ⟨hne1, rfl⟩ | ⟨he1, d1, d2, x, hx, rfl, hdx, -⟩
  · have hB1 : (detErr n ln != 0) = true := by rw [bne_iff_ne]; exact hne1
    have hB2 : (detErr n ln == 0) = false := by rw [beq_eq_false_iff_ne]; exact hne1
    generalize detErr n ln = r1 at *
    go_wp2_with fail
    refine (unhide CB).mono ?_
    rintro e w3 ⟨ho2, E3⟩
    have HE3 := hide ((unhide HE2).trans E3)
    clear CB E3
    rcases ho2 with ⟨hne2, rfl⟩ | ⟨he2, -, -, y, hy, rfl, -, -⟩
    · have hB3 : (detErr n2 ln2 == 0) = false := by rw [beq_eq_false_iff_ne]; exact hne2
      generalize detErr n2 ln2 = r2 at *
      go_wp2
      go_ret
      exact ⟨rfl, unhide HE3⟩
    · clear he2
      go_wp2
      go_ret
      exact ⟨rfl, unhide HE3⟩
  · have D1 := hide d1
    have D2 := hide d2
    have HDX := hide hdx
    clear he1 d1 d2 hdx
    go_wp2_with fail
    refine (unhide CB).mono ?_
    rintro e w3 ⟨ho2, E3⟩
    have HE3 := hide ((unhide HE2).trans E3)
    clear CB E3
    rcases ho2 with ⟨hne2, rfl⟩ | ⟨he2, d3, d4, y, hy, rfl, hdy, -⟩
    · have hB1 : (detErr n2 ln2 != 0) = true := by rw [bne_iff_ne]; exact hne2
      have hB3 : (detErr n2 ln2 == 0) = false := by rw [beq_eq_false_iff_ne]; exact hne2
      generalize detErr n2 ln2 = r2 at *
      go_wp2
      go_ret
      exact ⟨rfl, unhide HE3⟩
    · have D3 := hide d3
      have D4 := hide d4
      have HDY := hide hdy
      clear he2 d3 d4 hdy
      by_cases hnn : n = n2
      · subst hnn
        have hnB : ((n : Int) != (n : Int)) = false := by simp
        obtain ⟨a1, a2, -, -, -⟩ := chkM_ok (unhide D1)
        have CM := hide (MMul_any A n c ra ln cp M B n c2 rb ln2 cp2 N w3 ((unhide HT).keep (unhide HE3)) ((unhide HS).keep (unhide HE3)) hn hn2)
        have x1 : mulErr n ln n ln2 = 0 := by
          unfold mulErr
          rw [if_neg (by rw [unhide D1]; decide), if_neg (by rw [unhide D3]; decide), if_neg (by rw [← unhide D2]; simp)]
        have HX1 := hide x1
        have CF := hide (Mul_any x y hx hy)
        clear x1
        go_wp2_with fail
        refine (unhide CM).mono ?_
        rintro e w4 ⟨ho3, E4⟩
        have HE4 := hide ((unhide HE3).trans E4)
        clear CM E4
        rcases ho3 with ⟨hne, -⟩ | ⟨-, -, -, -, g1, bl1, cq1, rfl, TM⟩
        · exact absurd (unhide HX1) hne
        rw [← unhide D4] at TM
        have CZ := hide (Det_any _ n n _ _ _ _ w4 TM.tab hn)
        clear TM
        go_wp2_with fail
        refine (unhide CZ).mono ?_
        rintro e w5 ⟨ho4, E5⟩
        have HE5 := hide ((unhide HE4).trans E5)
        clear CZ E5
        rcases ho4 with ⟨hne, -⟩ | ⟨-, -, -, zz, hz, rfl, hdz, -⟩
        · exact absurd (detErr_const a1 a2) hne
        have HZ := hide (show zz = Wm.fmul x y from by
          rw [Wm.mulT_mm (unhide HT).lt (unhide HS).lt] at hdz
          have := (unhide HDX).times Wm.b8_two (unhide HDY) hdz
          rw [← Wm.m8_ml hx hy] at this
          exact Wm.m8_inj hz (Wm.fmul_lt hx hy) this)
        have CU := hide (turned_ok A n c ra ln cp M w5 ((unhide HT).keep (unhide HE5)) (unhide D1))
        rw [← unhide D2] at CU
        clear hdz
        go_wp2_with fail
        refine (unhide CU).mono ?_
        rintro e w6 ⟨⟨g2, cg2, bl2, cq2, rfl, TU⟩, E6⟩
        have HE6 := hide ((unhide HE5).trans E6)
        have CW := hide (Det_any _ n cg2 _ _ _ _ w6 TU.tab hn)
        clear CU TU E6
        go_wp2_with fail
        refine (unhide CW).mono ?_
        rintro e w7 ⟨ho5, E7⟩
        have HE7 := hide ((unhide HE6).trans E7)
        clear CW E7
        rcases ho5 with ⟨hne, -⟩ | ⟨-, -, -, u, hu, rfl, hdu, -⟩
        · exact absurd (detErr_const a1 a2) hne
        obtain rfl : u = x := by
          rw [m8m_tr] at hdu
          exact Wm.m8_inj hu hx ((unhide HDX).turn Wm.b8_two hdu)
        clear hdu
        have CF2 := hide (unhide CF)
        rw [← unhide HZ] at CF2
        clear CF HZ
        go_wp2_with (go_at_call 15; refine (good_made' [0, 0, 0] _ _ _ _ w7 rfl rfl (by decide) (by simp)).mono ?_; rintro e wg ⟨rfl, rfl⟩)
        refine (unhide CF2 _).mono ?_
        rintro e w8 ⟨rfl, rfl⟩
        go_wp2
        go_ret
        exact ⟨rfl, (unhide HE7).alloc _⟩
      · have hnB : ((n : Int) != (n2 : Int)) = true := by rw [bne_iff_ne]; omega
        go_wp2
        go_ret
        exact ⟨rfl, unhide HE3⟩
end Go.Proofs.Ytifkphlbjjdigaa

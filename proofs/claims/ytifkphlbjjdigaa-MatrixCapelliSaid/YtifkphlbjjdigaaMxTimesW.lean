/-
  The walk of the law MatrixTimes.
-/
import Derived.Test.YtifkphlbjjdigaaMx6
set_option linter.unusedVariables false
set_option linter.unusedSimpArgs false
namespace Go.Proofs.Ytifkphlbjjdigaa
open Go.RowKit Go.BigFrame Wm.Fld

theorem tabL1' (w : World) (r : List Nat) (hr : ∀ x ∈ r, x < 256) (hl : r.length ≤ 1000) {b0 b1 : Nat} (h0 : b0 = w.heap.size) (h1 : b1 = w.heap.size + 1) :
    Tab ((w.alloc (.cells (nats .u8 r).toArray 5)).alloc (.cells #[.slice (some ⟨b0, 0, none⟩) r.length r.length] 26)) (some ⟨b1, 0, none⟩) 1 (fun _ => some ⟨b0, 0, none⟩) (fun _ => r.length) (fun _ => r.length) (litM [r]) := by
  subst h0; subst h1; exact tabL1 w r hr hl
theorem tabL2' (w : World) (r s : List Nat) (hr : ∀ x ∈ r, x < 256) (hs : ∀ x ∈ s, x < 256) (hl : r.length ≤ 1000) (hl2 : s.length ≤ 1000) {b0 b1 b2 : Nat} (h0 : b0 = w.heap.size) (h1 : b1 = w.heap.size + 1) (h2 : b2 = w.heap.size + 2) :
    Tab (((w.alloc (.cells (nats .u8 r).toArray 5)).alloc (.cells (nats .u8 s).toArray 5)).alloc (.cells #[.slice (some ⟨b0, 0, none⟩) r.length r.length, .slice (some ⟨b1, 0, none⟩) s.length s.length] 26)) (some ⟨b2, 0, none⟩) 2
      (fun i => some ⟨w.heap.size + i, 0, none⟩) (fun i => ([r, s].getD i []).length) (fun i => ([r, s].getD i []).length) (litM [r, s]) := by
  subst h0; subst h1; subst h2; exact tabL2 w r s hr hs hl hl2
theorem Tb.row {w : World} {base g n : Nat} {bl cp : Nat → Nat} {l : Nat} {M : Nat → Nat → Nat} (T : Tb w base g n bl cp l M) {i : Nat} (hi : i < n) : Row w (some ⟨bl i, 0, none⟩) l 1 (nats .u8 ((List.range l).map (M i))) := T.tab.rowN hi

theorem chkM_const {n l : Nat} (h1 : 1 ≤ n) (h2 : n ≤ 12) (h3 : 1 ≤ l) (h4 : l ≤ 12) : chkM n (fun _ => l) = 0 := chkM_of h1 h2 h3 h4 fun _ _ => rfl
theorem times_plain {A B C : Nat → Nat → Nat} (hA : ∀ i j, A i j < 256) (hB : ∀ i j, B i j < 256) (hC : ∀ i j, C i j < 256) (k l i j : Nat) : Wm.mulT l (Wm.mulT k A B) C i j = Wm.mulT k A (Wm.mulT l B C) i j := by
  have h1 : ∀ i j, Wm.mulT k A B i j < 256 := fun i j => Wm.mulS_lt hA hB i j k
  have h2 : ∀ i j, Wm.mulT l B C i j < 256 := fun i j => Wm.mulS_lt hB hC i j l
  refine Wm.m8m_inj (M := Wm.mulT l (Wm.mulT k A B) C) (N := Wm.mulT k A (Wm.mulT l B C)) (fun i j => Wm.mulS_lt h1 hC i j l) (fun i j => Wm.mulS_lt hA h2 i j k) ?_
  rw [Wm.mulT_mm h1 hC, Wm.mulT_mm hA h2]
  show mm l (Wm.m8m (Wm.mulT k A B)) (Wm.m8m C) i j = mm k (Wm.m8m A) (Wm.m8m (Wm.mulT l B C)) i j
  rw [Wm.mulT_mm hA hB, Wm.mulT_mm hB hC, mm_assoc]

set_option maxRecDepth 100000 in
set_option maxHeartbeats 4000000 in
theorem times_law (A : Option Addr) (n c : Nat) (ra : Nat → Option Addr) (ln cp : Nat → Nat) (M : Nat → Nat → Nat) (B : Option Addr) (n2 c2 : Nat) (rb : Nat → Option Addr) (ln2 cp2 : Nat → Nat) (N : Nat → Nat → Nat) (C : Option Addr) (n3 c3 : Nat) (rc : Nat → Option Addr) (ln3 cp3 : Nat → Nat) (O : Nat → Nat → Nat) (w : World)
    (T : Tab w A n ra ln cp M) (hn : n ≤ 4611686018427387904) (S : Tab w B n2 rb ln2 cp2 N) (hn2 : n2 ≤ 4611686018427387904) (U : Tab w C n3 rc ln3 cp3 O) (hn3 : n3 ≤ 4611686018427387904) :
    Calls Try.prog 3 #[.slice A n c, .slice B n2 c2, .slice C n3 c3] w fun e w' => e = .returned (.bool true) ∧ Ext w w' := by
  have HT := hide T
  have HS := hide S
  have HU := hide U
  clear T S U
  go_enter Try.func3, Try.ntmps3
  go_wp2_with fail
  have E5 := ((((Ext.refl w).alloc (.cells (nats .u8 [1, 2]).toArray 5)).alloc (.cells #[.slice (some ⟨w.heap.size, 0, none⟩) 2 2] 26)).alloc (.cells (nats .u8 [3]).toArray 5)).alloc (.cells (nats .u8 [4]).toArray 5)
  have T1 := ((tabL1' w [1, 2] (by decide) (by decide) (b0 := w.heap.size) (b1 := w.heap.size + 1) rfl rfl).keep ((((Ext.refl _).alloc (.cells (nats .u8 [3]).toArray 5)).alloc (.cells (nats .u8 [4]).toArray 5)).alloc (.cells #[.slice (some ⟨w.heap.size + 2, 0, none⟩) 1 1, .slice (some ⟨w.heap.size + 3, 0, none⟩) 1 1] 26)))
  have T2 := tabL2' ((w.alloc (.cells (nats .u8 [1, 2]).toArray 5)).alloc (.cells #[.slice (some ⟨w.heap.size, 0, none⟩) 2 2] 26)) [3] [4] (by decide) (by decide) (by decide) (by decide) (b0 := w.heap.size + 2) (b1 := w.heap.size + 3) (b2 := w.heap.size + 4) (by simp) (by simp) (by simp)
  refine (MMul_any _ 1 1 _ _ _ _ _ 2 2 _ _ _ _ _ T1 T2 (by omega) (by omega)).mono ?_
  rintro e w1 ⟨ho, E1⟩
  have HE1 := hide ((E5.alloc _).trans E1)
  rcases ho with ⟨hne, -⟩ | ⟨-, -, -, -, g, bl, cp', rfl, TB⟩
  · exact absurd (by decide) hne
  have R0 := TB.row (i := 0) (by omega)
  have hh := TB.hd 0 (by omega)
  have hval : (List.range ((fun i => (([[3], [4]] : List (List Nat)).getD i []).length) 0)).map (Wm.mulT 2 (litM [[1, 2]]) (litM [[3], [4]]) 0) = [11] := by decide +kernel
  rw [hval] at R0
  have HEQ := hide (fun (W : World) (E : Ext w1 W) (b : Nat) (S : Row W (some ⟨b, 0, none⟩) 1 1 (nats .u8 [11])) => equal_u8 (some ⟨bl 0, 0, none⟩) (some ⟨b, 0, none⟩) 1 1 (cp' 0) 1 [11] [11] W (R0.keep E) S (by omega) (by omega))
  rw [decide_eq_true rfl] at HEQ
  clear T1 T2 E5 E1 hval R0 TB
  generalize bl 0 = b0 at *
  generalize cp' 0 = c0 at *
  go_wp2_with fail
  refine (unhide HEQ _ ((Ext.refl w1).alloc _) w1.heap.size (row_new w1 #[.int .u8 11] 5 1 1 rfl)).mono ?_
  rintro e w2 ⟨rfl, nd, rfl⟩
  have HE2 := hide (((unhide HE1).alloc (.cells #[.int .u8 11] 5)).drewN nd)
  generalize (w1.alloc (.cells #[.int .u8 11] 5)).drewN nd = w2 at *
  clear HEQ hh
  have CA := hide (MMul_any A n c ra ln cp M B n2 c2 rb ln2 cp2 N w2 ((unhide HT).keep (unhide HE2)) ((unhide HS).keep (unhide HE2)) hn hn2)
  go_wp2_with fail
  refine (unhide CA).mono ?_
  rintro e w3 ⟨ho1, E3⟩
  have HE3 := hide ((unhide HE2).trans E3)
  have CB := hide (MMul_any B n2 c2 rb ln2 cp2 N C n3 c3 rc ln3 cp3 O w3 ((unhide HS).keep (unhide HE3)) ((unhide HU).keep (unhide HE3)) hn2 hn3)
  clear CA E3
  rcases ho1 with ⟨hne1, rfl⟩ | ⟨he1, d1, d2, d3, g1, bl1, cq1, rfl, TA⟩
  · have hB1 : (mulErr n ln n2 ln2 != 0) = true := by rw [bne_iff_ne]; exact hne1
    have hB2 : (mulErr n ln n2 ln2 == 0) = false := by rw [beq_eq_false_iff_ne]; exact hne1
    generalize mulErr n ln n2 ln2 = r1 at *
    go_wp2_with fail
    refine (unhide CB).mono ?_
    rintro e w4 ⟨ho2, E4⟩
    have HE4 := hide ((unhide HE3).trans E4)
    clear CB E4
    rcases ho2 with ⟨hne2, rfl⟩ | ⟨he2, -, -, -, g2, bl2, cq2, rfl, -⟩
    · have hB3 : (mulErr n2 ln2 n3 ln3 == 0) = false := by rw [beq_eq_false_iff_ne]; exact hne2
      generalize mulErr n2 ln2 n3 ln3 = r2 at *
      go_wp2
      go_ret
      exact ⟨rfl, unhide HE4⟩
    · clear he2
      go_wp2
      go_ret
      exact ⟨rfl, unhide HE4⟩
  · have HTA := hide TA
    have D3 := hide d3
    have D1 := hide d1
    have D2 := hide d2
    clear TA he1 d1 d2 d3
    go_wp2_with fail
    refine (unhide CB).mono ?_
    rintro e w4 ⟨ho2, E4⟩
    have HE4 := hide ((unhide HE3).trans E4)
    have HTA4 := hide ((unhide HTA).keep E4)
    clear CB E4
    rcases ho2 with ⟨hne2, rfl⟩ | ⟨he2, d4, d5, d6, g2, bl2, cq2, rfl, TB2⟩
    · have hB1 : (mulErr n2 ln2 n3 ln3 != 0) = true := by rw [bne_iff_ne]; exact hne2
      have hB3 : (mulErr n2 ln2 n3 ln3 == 0) = false := by rw [beq_eq_false_iff_ne]; exact hne2
      generalize mulErr n2 ln2 n3 ln3 = r2 at *
      go_wp2
      go_ret
      exact ⟨rfl, unhide HE4⟩
    · have HTB := hide TB2
      have d1 := unhide D1
      have d2 := unhide D2
      have d3 := unhide D3
      obtain ⟨a1, a2, a3, a4, a5⟩ := chkM_ok d1
      obtain ⟨b1, b2, b3, b4, b5⟩ := chkM_ok d2
      obtain ⟨c1, c2', c3', c4, c5⟩ := chkM_ok d5
      have CX := hide (MMul_any _ n n _ _ _ _ C n3 c3 rc ln3 cp3 O w4 (unhide HTA4).tab ((unhide HU).keep (unhide HE4)) hn hn3)
      have x1 : mulErr n (fun _ => ln2 0) n3 ln3 = 0 := by
        unfold mulErr
        rw [if_neg (by rw [chkM_const a1 a2 b3 b4]; decide), if_neg (by rw [d5]; decide), if_neg (by rw [d6]; simp)]
      have y1 : mulErr n ln n2 (fun _ => ln3 0) = 0 := by
        unfold mulErr
        rw [if_neg (by rw [d1]; decide), if_neg (by rw [chkM_const b1 b2 c3' c4]; decide), if_neg (by rw [d3]; simp)]
      have HY1 := hide y1
      have HX1 := hide x1
      have HD := hide (⟨d3, d6⟩ : n2 = ln 0 ∧ n3 = ln2 0)
      clear TB2 he2 d4 x1 y1 d3 d6 d1 d2 d5 a5 b5 c5
      go_wp2_with fail
      refine (unhide CX).mono ?_
      rintro e w5 ⟨ho3, E5⟩
      have HE5 := hide ((unhide HE4).trans E5)
      have HTB5 := hide ((unhide HTB).keep E5)
      clear CX E5
      rcases ho3 with ⟨hne, -⟩ | ⟨-, -, -, -, g3, bl3, cq3, rfl, TX⟩
      · exact absurd (unhide HX1) hne
      have HTX := hide TX
      have CY := hide (MMul_any A n c ra ln cp M _ n2 n2 _ _ _ _ w5 ((unhide HT).keep (unhide HE5)) (unhide HTB5).tab hn hn2)
      clear TX
      go_wp2_with fail
      refine (unhide CY).mono ?_
      rintro e w6 ⟨ho4, E6⟩
      have HE6 := hide ((unhide HE5).trans E6)
      have HTX6 := hide ((unhide HTX).keep E6)
      clear CY E6
      rcases ho4 with ⟨hne, -⟩ | ⟨-, -, -, -, g4, bl4, cq4, rfl, TY⟩
      · exact absurd (unhide HY1) hne
      have HTY := hide TY
      clear TY
      have HSM := hide (fun (W : World) (E : Ext w6 W) => same_yes (some ⟨g3, 0, none⟩) (some ⟨g4, 0, none⟩) n n n _ _ (fun _ => ln3 0) cq3 cq4 _ _ W ((unhide HTX6).keep E).tab ((unhide HTY).keep E).tab (by omega) (fun _ _ => by omega) (fun i j hi hj => by
        obtain ⟨e1, e2⟩ := unhide HD
        rw [e2]
        exact times_plain (unhide HT).lt (unhide HS).lt (unhide HU).lt n2 (ln2 0) i j))
      go_wp2_with (go_at_call 15; refine (good_made' [0, 0] _ _ _ _ w6 rfl rfl (by decide) (by simp)).mono ?_; rintro e wg ⟨rfl, rfl⟩)
      refine (unhide HSM _ ((Ext.refl w6).alloc _)).mono ?_
      rintro e w7 ⟨rfl, E7⟩
      have HE7 := hide (((unhide HE6).alloc _).trans E7)
      clear E7 HSM
      go_wp2
      go_ret
      exact ⟨rfl, unhide HE7⟩
end Go.Proofs.Ytifkphlbjjdigaa

/-
  The walk of the law MatrixUndone.
-/
import Derived.Test.YtifkphlbjjdigaaMxB
import Derived.Test.YtifkphlbjjdigaaMxBinetW
import Derived.Test.YtifkphlbjjdigaaMxVanderW
set_option linter.unusedVariables false
set_option linter.unusedSimpArgs false
namespace Go.Proofs.Ytifkphlbjjdigaa
open Go.RowKit Go.BigFrame Wm.Fld

def unitN : Nat → Nat → Nat := fun i j => if i = j then 1 else 0
theorem unitN_lt (i j : Nat) : unitN i j < 256 := by unfold unitN; split <;> omega
theorem unitN_m8 : Wm.m8m unitN = idm := by
  funext i j
  show Wm.m8 (unitN i j) = _
  unfold unitN idm
  by_cases d : i = j
  · rw [if_pos d, if_pos d]; rfl
  · rw [if_neg d, if_neg d]; rfl
theorem inv_cell {n : Nat} {M X : Nat → Nat → Nat} (hM : ∀ i j, M i j < 256) (hX : ∀ i j, X i j < 256) (h : Eqm n n (mm n (Wm.m8m M) (Wm.m8m X)) idm) {i j : Nat} (hi : i < n) (hj : j < n) : Wm.mulT n M X i j = unitN i j := by
  refine Wm.m8m_inj (M := Wm.mulT n M X) (N := unitN) (fun i j => Wm.mulS_lt hM hX i j n) unitN_lt ?_
  rw [Wm.mulT_mm hM hX, unitN_m8]
  exact h i j hi hj
theorem ex_unit : Eqm 2 2 (mm 2 (Wm.m8m (litM [[0, 1], [1, 1]])) (Wm.m8m (litM [[1, 1], [1, 0]]))) idm := by
  rw [← Wm.mulT_mm (litM_lt (by decide)) (litM_lt (by decide)), ← unitN_m8]
  have : (List.range 2).all (fun i => (List.range 2).all fun j => decide (Wm.mulT 2 (litM [[0, 1], [1, 1]]) (litM [[1, 1], [1, 0]]) i j = unitN i j)) = true := by decide +kernel
  exact fun i j hi hj => congrArg Wm.m8 (of_decide_eq_true (List.all_eq_true.1 (List.all_eq_true.1 this i (List.mem_range.2 hi)) j (List.mem_range.2 hj)))
theorem ex_inv {R : Nat → Nat → Nat} (hR : ∀ i j, R i j < 256) (h : Inv 2 (Wm.m8m (litM [[0, 1], [1, 1]])) (Wm.m8m R)) (i j : Nat) (hi : i < 2) (hj : j < 2) : R i j = litM [[1, 1], [1, 0]] i j :=
  (Wm.m8m_inj (M := litM [[1, 1], [1, 0]]) (N := R) (litM_lt (by decide)) hR (h.unique ex_unit i j hi hj)).symm
theorem detErr_not5 (n : Nat) (ln : Nat → Nat) : detErr n ln ≠ 5 := by
  unfold detErr chkM
  split
  · split
    · omega
    · split <;> omega
  · split <;> omega

--{
set_option maxRecDepth 100000 in
set_option maxHeartbeats 4000000 in
theorem undone_law (A : Option Addr) (n c : Nat) (ra : Nat → Option Addr) (ln cp : Nat → Nat) (M : Nat → Nat → Nat) (B : Option Addr) (n2 c2 : Nat) (rb : Nat → Option Addr) (ln2 cp2 : Nat → Nat) (N : Nat → Nat → Nat) (w : World)
    (T : Tab w A n ra ln cp M) (hn : n ≤ 4611686018427387904) (S : Tab w B n2 rb ln2 cp2 N) (hn2 : n2 ≤ 4611686018427387904) :
    Calls Try.prog 7 #[.slice A n c, .slice B n2 c2] w fun e w' => e = .returned (.bool true) ∧ Ext w w' := by
  have HT := hide T
  have HS := hide S
  clear T S
  go_enter Try.func7, Try.ntmps7
  go_wp2_with fail
  have T2 := tabL2 w [0, 1] [1, 1] (by decide) (by decide) (by decide) (by decide)
  have E5 : Ext w (((w.alloc (.cells (nats .u8 [0, 1]).toArray 5)).alloc (.cells (nats .u8 [1, 1]).toArray 5)).alloc (.cells #[.slice (some ⟨w.heap.size, 0, none⟩) 2 2, .slice (some ⟨w.heap.size + 1, 0, none⟩) 2 2] 26)) := (((Ext.refl w).alloc _).alloc _).alloc _
  refine (Inverse_any _ 2 2 _ _ _ _ _ T2 (by omega)).mono ?_
  rintro e w1 ⟨ho, E1⟩
  have HE1 := hide (E5.trans E1)
  clear T2 E5
  rcases ho with ⟨hne, -⟩ | ⟨-, -, -, ⟨-, hd⟩ | ⟨d0, -, -, g0, bl0, cq0, R0, rfl, T0, hinv⟩⟩
  · exact absurd (by decide) hne
  · exact absurd rfl (hd.unit Wm.b8_two ex_unit)
  have HS1 := hide (same_yes (some ⟨g0, 0, none⟩) _ 2 2 2 _ _ (fun _ => 2) cq0 _ _ _ _ (T0.keep ((((Ext.refl w1).alloc (.cells (nats .u8 [1, 1]).toArray 5)).alloc (.cells (nats .u8 [1, 0]).toArray 5)).alloc (.cells #[.slice (some ⟨w1.heap.size, 0, none⟩) 2 2, .slice (some ⟨w1.heap.size + 1, 0, none⟩) 2 2] 26))).tab
    ((tabL2 w1 [1, 1] [1, 0] (by decide) (by decide) (by decide) (by decide)).relen (ln' := fun _ => 2) (fun i hi => by
      rcases (show i = 0 ∨ i = 1 by omega) with rfl | rfl <;> rfl)) (by omega) (fun _ _ => by omega) (fun i j hi hj => ex_inv T0.lt hinv i j hi hj))
  clear hinv T0 E1
  go_wp2_with fail
  refine (unhide HS1).mono ?_
  rintro e w2 ⟨rfl, E2⟩
  have HE2 := hide ((unhide HE1).trans (((((Ext.refl w1).alloc _).alloc _).alloc _).trans E2))
  have CA := hide (Inverse_any A n c ra ln cp M w2 ((unhide HT).keep (unhide HE2)) hn)
  clear HS1 E2
  go_wp2_with fail
  refine (unhide CA).mono ?_
  rintro e w3 ⟨ho, E3⟩
  have HE3 := hide ((unhide HE2).trans E3)
  have CD := hide (Det_any A n c ra ln cp M w3 ((unhide HT).keep (unhide HE3)) hn)
  clear CA E3
  rcases ho with ⟨hne, rfl⟩ | ⟨hde, hck, hnl, ho⟩
  · have hB1 : (detErr n ln != 0) = true := by rw [bne_iff_ne]; exact hne
    have hB2 : (detErr n ln == 0) = false := by rw [beq_eq_false_iff_ne]; exact hne
    have hB3 : (detErr n ln == 5) = false := by rw [beq_eq_false_iff_ne]; exact detErr_not5 n ln
    have HNE := hide hne
    go_wp2_with fail
    refine (unhide CD).mono ?_
    rintro e w4 ⟨ho, E4⟩
    have HE4 := hide ((unhide HE3).trans E4)
    clear CD E4
    rcases ho with ⟨-, rfl⟩ | ⟨he, -⟩
    · generalize detErr n ln = r at *
      go_wp2
      go_ret
      exact ⟨rfl, unhide HE4⟩
    · exact absurd he (unhide HNE)
  · have HDE := hide hde
    have HCK := hide hck
    have HNL := hide hnl
    obtain ⟨a1, a2, -, -, -⟩ := chkM_ok hck
    clear hde hck hnl
    rcases ho with ⟨rfl, hdz⟩ | ⟨d, hdn, hdd, g1, bl1, cq1, X, rfl, TX, hinv⟩
    · have HDZ := hide hdz
      clear hdz
      go_wp2_with fail
      refine (unhide CD).mono ?_
      rintro e w4 ⟨ho, E4⟩
      have HE4 := hide ((unhide HE3).trans E4)
      clear CD E4
      rcases ho with ⟨hne, -⟩ | ⟨-, -, -, d, hd8, rfl, hdone, -⟩
      · exact absurd (unhide HDE) hne
      obtain rfl : d = 0 := Wm.m8_inj hd8 (show (0 : Nat) < 256 by omega) (by
        rw [hdone.dt Wm.b8_two, ← (unhide HDZ).dt Wm.b8_two]; rfl)
      clear hdone
      go_wp2
      go_ret
      exact ⟨rfl, unhide HE4⟩
    · have HDD := hide hdd
      have HDN := hide hdn
      have HTX := hide TX
      have HINV := hide hinv
      clear hdd hdn TX hinv
      go_wp2_with fail
      refine (unhide CD).mono ?_
      rintro e w4 ⟨ho, E4⟩
      have HE4 := hide ((unhide HE3).trans E4)
      have HTX4 := hide ((unhide HTX).keep E4)
      clear CD E4
      rcases ho with ⟨hne, -⟩ | ⟨-, -, -, f, hd8, rfl, hdone, -⟩
      · exact absurd (unhide HDE) hne
      have hf0 : ((f : Int) == 0) = false := by
        rw [beq_eq_false_iff_ne]
        intro h0
        have h1 : f = 0 := by omega
        refine unhide HDN ?_
        rw [(unhide HDD).dt Wm.b8_two, ← hdone.dt Wm.b8_two, h1]; rfl
      clear hdone
      have x1 : mulErr n ln n (fun _ => n) = 0 := by
        unfold mulErr
        rw [if_neg (by rw [unhide HCK]; decide), if_neg (by rw [chkM_const a1 a2 a1 a2]; decide), if_neg (by rw [← unhide HNL]; simp)]
      have x2 : mulErr n (fun _ => n) n ln = 0 := by
        unfold mulErr
        rw [if_neg (by rw [chkM_const a1 a2 a1 a2]; decide), if_neg (by rw [unhide HCK]; decide), if_neg (by simp)]
      have HX1 := hide x1
      have HX2 := hide x2
      clear x1 x2
      have C1 := hide (MMul_any A n c ra ln cp M _ n n _ _ _ _ w4 ((unhide HT).keep (unhide HE4)) (unhide HTX4).tab hn hn)
      go_wp2_with fail
      refine (unhide C1).mono ?_
      rintro e w5 ⟨ho, E5⟩
      have HE5 := hide ((unhide HE4).trans E5)
      have HTX5 := hide ((unhide HTX4).keep E5)
      clear C1 E5
      rcases ho with ⟨hne, -⟩ | ⟨-, -, -, -, g2, bl2, cq2, rfl, T1⟩
      · exact absurd (unhide HX1) hne
      have HT1 := hide T1
      clear T1
      have C2 := hide (MMul_any _ n n _ _ _ _ A n c ra ln cp M w5 (unhide HTX5).tab ((unhide HT).keep (unhide HE5)) hn hn)
      go_wp2_with fail
      refine (unhide C2).mono ?_
      rintro e w6 ⟨ho, E6⟩
      have HE6 := hide ((unhide HE5).trans E6)
      have HTX6 := hide ((unhide HTX5).keep E6)
      have HT16 := hide ((unhide HT1).keep E6)
      clear C2 E6
      rcases ho with ⟨hne, -⟩ | ⟨-, -, -, -, g3, bl3, cq3, rfl, T2⟩
      · exact absurd (unhide HX2) hne
      rw [← unhide HNL] at T2
      have hM := (unhide HT).lt
      have hX := (unhide HTX).lt
      have HS2 := hide (fun (W : World) (E : Ext w6 W) => same_yes (some ⟨g2, 0, none⟩) (some ⟨g3, 0, none⟩) n n n _ _ _ _ _ _ _ W ((unhide HT16).keep E).tab (T2.keep E).tab (by omega) (fun _ _ => by show n ≤ 1000; omega) (fun i j hi hj => by
        rw [inv_cell hM hX (unhide HINV).1 hi hj, inv_cell hX hM (unhide HINV).2 hi hj]))
      clear T2 hM hX
      go_wp2_with (go_at_call 15; refine (good_made' [0, 0, 0] _ _ _ _ w6 rfl rfl (by decide) (by simp)).mono ?_; rintro e wg ⟨rfl, rfl⟩)
      refine (unhide HS2 _ ((Ext.refl w6).alloc _)).mono ?_
      rintro e w7 ⟨rfl, E7⟩
      have HE7 := hide ((unhide HE6).trans (((Ext.refl w6).alloc _).trans E7))
      have HT17 := hide ((unhide HT16).keep (((Ext.refl w6).alloc _).trans E7))
      have HTX7 := hide ((unhide HTX6).keep (((Ext.refl w6).alloc _).trans E7))
      clear HS2 E7
      have hM := hide (unhide HT).lt
      have hX := hide (unhide HTX).lt
      go_wp2
      go_loopw [97] (fun i wz => ∃ x : Nat, x ≤ n ∧ i = .int .i64 x ∧ w7 = wz) (fun i _ => n - (intOf i).toNat)
      case atStart => exact ⟨0, Nat.zero_le _, rfl, rfl⟩
      case round =>
        obtain ⟨x, hx, rfl, rfl⟩ := hrel
        by_cases hlt : x < n
        · have hh := (unhide HT17).hd x hlt
          go_wp2
          go_loopw [104] (fun i wz => ∃ j : Nat, j ≤ n ∧ i = .int .i64 j ∧ w7 = wz) (fun i _ => n - (intOf i).toNat)
          case atStart => exact ⟨0, Nat.zero_le _, rfl, rfl⟩
          case round =>
            obtain ⟨j, hj, rfl, rfl⟩ := hrel
            by_cases hjn : j < n
            · have hc := (unhide HT17).cell x j hlt hjn
              rw [inv_cell (unhide hM) (unhide hX) (unhide HINV).1 hlt hjn] at hc
              by_cases hxj : x = j
              · subst hxj
                rw [show unitN x x = 1 from if_pos rfl] at hc
                have hc1 : w7.cell? ⟨bl2 x, x, none⟩ = some (.int .u8 1) := hc
                clear hc
                have hxB : ((x : Int) == (x : Int)) = true := by simp
                go_wp2
                go_roundw
                case rel => exact ⟨x + 1, by omega, by go_num, by first | trivial | rfl⟩
                case measure => simp [intOf]; omega
              · rw [show unitN x j = 0 from if_neg hxj] at hc
                have hc1 : w7.cell? ⟨bl2 x, j, none⟩ = some (.int .u8 0) := hc
                clear hc
                have hxB : ((x : Int) == (j : Int)) = false := by rw [beq_eq_false_iff_ne]; omega
                go_wp2
                go_roundw
                case rel => exact ⟨j + 1, by omega, by go_num, by first | trivial | rfl⟩
                case measure => simp [intOf]; omega
            · obtain rfl : n = j := by omega
              go_wp2
              go_roundw
              case rel => exact ⟨x + 1, by omega, by go_num, by first | trivial | rfl⟩
              case measure => simp [intOf]; omega
        · obtain rfl : n = x := by omega
          have CB := hide (Inverse_any B n2 c2 rb ln2 cp2 N w7 ((unhide HS).keep (unhide HE7)) hn2)
          go_wp2_with fail
          refine (unhide CB).mono ?_
          rintro e w8 ⟨ho, E8⟩
          have HE8 := hide ((unhide HE7).trans E8)
          have HTX8 := hide ((unhide HTX7).keep E8)
          clear CB E8
          rcases ho with ⟨hne, rfl⟩ | ⟨-, hck2, hnl2, ho⟩
          · have hB1 : (detErr n2 ln2 != 0) = true := by rw [bne_iff_ne]; exact hne
            have hB2 : (detErr n2 ln2 == 0) = false := by rw [beq_eq_false_iff_ne]; exact hne
            generalize detErr n2 ln2 = r at *
            go_wp2
            go_ret
            exact ⟨rfl, unhide HE8⟩
          rcases ho with ⟨rfl, -⟩ | ⟨d2, -, -, g4, bl4, cq4, Y, rfl, TY, hinv2⟩
          · go_wp2
            go_ret
            exact ⟨rfl, unhide HE8⟩
          have HCK2 := hide hck2
          have HNL2 := hide hnl2
          have HINV2 := hide hinv2
          have HTY := hide TY
          clear hck2 hnl2 hinv2 TY
          by_cases hnn : n = n2
          · subst hnn
            have hnB : ((n : Int) != (n : Int)) = false := by simp
            have x1 : mulErr n ln n ln2 = 0 := by
              unfold mulErr
              rw [if_neg (by rw [unhide HCK]; decide), if_neg (by rw [unhide HCK2]; decide), if_neg (by rw [← unhide HNL]; simp)]
            have x2 : mulErr n (fun _ => n) n (fun _ => n) = 0 := by
              unfold mulErr
              rw [if_neg (by rw [chkM_const a1 a2 a1 a2]; decide), if_neg (by rw [chkM_const a1 a2 a1 a2]; decide), if_neg (by simp)]
            have HX3 := hide x1
            have HX4 := hide x2
            have HD5 := hide (detErr_const a1 a2)
            clear x1 x2
            have C3 := hide (MMul_any A n c ra ln cp M B n c2 rb ln2 cp2 N w8 ((unhide HT).keep (unhide HE8)) ((unhide HS).keep (unhide HE8)) hn hn2)
            go_wp2_with fail
            refine (unhide C3).mono ?_
            rintro e w9 ⟨ho, E9⟩
            have HE9 := hide ((unhide HE8).trans E9)
            have HTX9 := hide ((unhide HTX8).keep E9)
            have HTY9 := hide ((unhide HTY).keep E9)
            clear C3 E9
            rcases ho with ⟨hne, -⟩ | ⟨-, -, -, -, g5, bl5, cq5, rfl, TP⟩
            · exact absurd (unhide HX3) hne
            rw [← unhide HNL2] at TP
            have HTP := hide TP
            clear TP
            have C4 := hide (MMul_any _ n n _ _ _ _ _ n n _ _ _ _ w9 (unhide HTY9).tab (unhide HTX9).tab hn hn)
            go_wp2_with fail
            refine (unhide C4).mono ?_
            rintro e wA ⟨ho, EA⟩
            have HEA := hide ((unhide HE9).trans EA)
            have HTPA := hide ((unhide HTP).keep EA)
            clear C4 EA
            rcases ho with ⟨hne, -⟩ | ⟨-, -, -, -, g6, bl6, cq6, rfl, TQ⟩
            · exact absurd (unhide HX4) hne
            have HTQ := hide TQ
            clear TQ
            have C5 := hide (Inverse_any _ n n _ _ _ _ wA (unhide HTPA).tab hn)
            have hYlt := (unhide HTY).lt
            have hNlt := (unhide HS).lt
            have hI : Inv n (Wm.m8m (Wm.mulT n M N)) (mm n (Wm.m8m Y) (Wm.m8m X)) := by
              rw [Wm.mulT_mm (unhide hM) hNlt]
              exact (unhide HINV).mul (unhide HINV2)
            have HI := hide hI
            clear hI
            go_wp2_with fail
            refine (unhide C5).mono ?_
            rintro e wB ⟨ho, EB⟩
            have HEB := hide ((unhide HEA).trans EB)
            have HTQB := hide ((unhide HTQ).keep EB)
            clear C5 EB
            rcases ho with ⟨hne, -⟩ | ⟨-, -, -, ⟨-, hdz⟩ | ⟨d3, -, -, g7, bl7, cq7, Z, rfl, TZ, hinv3⟩⟩
            · exact absurd (unhide HD5) hne
            · exact absurd rfl (hdz.unit Wm.b8_two (unhide HI).1)
            have HS3 := hide (fun (W : World) (E : Ext wB W) => same_yes (some ⟨g7, 0, none⟩) (some ⟨g6, 0, none⟩) n n n _ _ _ _ _ _ _ W (TZ.keep E).tab ((unhide HTQB).keep E).tab (by omega) (fun _ _ => by show n ≤ 1000; omega) (fun i j hi hj => by
              refine (Wm.m8m_inj (M := Wm.mulT n Y X) (N := Z) (fun i j => Wm.mulS_lt hYlt (unhide hX) i j n) TZ.lt ?_).symm
              rw [Wm.mulT_mm hYlt (unhide hX)]
              exact hinv3.unique (unhide HI).1 i j hi hj))
            clear TZ hinv3 hYlt hNlt
            go_wp2_with (go_at_call 15; refine (good_made' [0, 0, 0] _ _ _ _ wB rfl rfl (by decide) (by simp)).mono ?_; rintro e wg ⟨rfl, rfl⟩)
            refine (unhide HS3 _ ((Ext.refl wB).alloc _)).mono ?_
            rintro e wC ⟨rfl, EC⟩
            have HEC := hide ((unhide HEB).trans (((Ext.refl wB).alloc _).trans EC))
            clear HS3 EC
            go_wp2
            go_ret
            exact ⟨rfl, unhide HEC⟩
          · have hnB : ((n : Int) != (n2 : Int)) = true := by rw [bne_iff_ne]; omega
            go_wp2
            go_ret
            exact ⟨rfl, unhide HE8⟩
--}
end Go.Proofs.Ytifkphlbjjdigaa

/-
  The law LinearDuals returns true: the walk.
-/
import Derived.Test.YtbejhfafipedmaaLin12
set_option linter.unusedVariables false
set_option linter.unusedSimpArgs false
namespace Go.Proofs.Ytbejhfafipedmaa
open Go.RowKit Go.BigFrame Go.Sort

set_option maxRecDepth 100000 in
set_option maxHeartbeats 4000000 in
theorem duals_law (n : Int) (A : Option Addr) (m c : Nat) (l : List Nat) (w : World) (S : SliceIn w A m c 1 2 (nats .u16 l)) (hl : ∀ x ∈ l, x < 65536) :
    Calls Try.prog 4 #[.int .i64 n, .slice A m c] w fun e w' => e = .returned (.bool true) ∧ Ext w w' := by
  have hm63 : m ≤ 9223372036854775807 := by have := S.2.1; have := S.2.2.2.1; omega
  have CT := hide dual_trial
  have CV := hide words_any
  have CD := hide (fun (W : World) (E : Ext w W) => Dual_any n A m c l W (S.1.keep E) hm63 hl)
  have CB := hide (fun (W : World) (E : Ext w W) => Base_any n A m c l W (S.1.keep E) hm63 hl)
  clear S
  go_enter Try.func4, Try.ntmps4
  go_wp2_with fail
  refine (unhide CT _ _ (row16 w [3, 5] 2 rfl _ rfl)).mono ?_
  rintro e w1 ⟨⟨v, rfl, M1⟩, E1⟩
  have HE1 := hide (show Ext w w1 from Ext.trans ((Ext.refl w).alloc _) E1)
  obtain ⟨A1, c1, rfl, R1, -, hc1, -⟩ := M1.open_
  have HR1 := hide R1
  have CE1 := hide (fun (W : World) (E : Ext w1 W) (b : Nat) (S : Row W (some ⟨b, 0, none⟩) 1 1 (nats .u16 [7])) => equal_u16 A1 (some ⟨b, 0, none⟩) 1 1 c1 1 [7] [7] W ((unhide HR1).keep E) S (by omega) (by omega))
  clear M1 E1 CT R1
  go_wp2_with fail
  refine (unhide CE1 _ (by repeat (first | exact Ext.refl _ | refine Ext.alloc ?_ _ | refine Ext.drew ?_ | refine Ext.drewN ?_ _ | (refine Ext.trans ?_ (plus_ext _ _)) | (refine Ext.setCell ?_ (by have := Ext.size Ext.refl _; simp; omega) _))) _ (row16 _ [7] 1 rfl _ rfl)).mono ?_
  rintro e w2 ⟨rfl, q2, rfl⟩
  go_wp2_with fail
  refine (unhide CV _).mono ?_
  rintro e w3 ⟨rfl, E3⟩
  have HE3 := hide (show Ext w w3 from Ext.trans ((by repeat (first | exact unhide HE1 | refine Ext.alloc ?_ _ | refine Ext.drew ?_ | refine Ext.drewN ?_ _ | (refine Ext.trans ?_ (plus_ext _ _)) | (refine Ext.setCell ?_ (by have := Ext.size unhide HE1; simp; omega) _)))) E3)
  clear E3 CE1 HR1 HE1 CV hc1
  by_cases hk : Wm.chkL n l = 0
  · obtain ⟨N, rfl, h1, h12, h6, hlt⟩ := Wm.chk_ok hk
    have HK0 := hide hk
    have HT := hide (Int.toNat_natCast N)
    have hb6 := Nat.le_trans (Wm.bl_len_le l) h6
    go_wp2_with fail
    refine (unhide CD _ (unhide HE3)).mono ?_
    rintro e w4 ⟨ho, E4⟩
    have HE4 := hide ((unhide HE3).trans E4)
    clear E4 CD HE3
    rcases ho with ⟨h, -⟩ | ⟨-, ⟨-, rfl⟩ | ⟨hsm, v, rfl, M⟩⟩
    · exact absurd (unhide HK0) h
    · go_wp2_with fail
      refine (unhide CB _ (unhide HE4)).mono ?_
      rintro e w5 ⟨ho, E5⟩
      rcases ho with ⟨h, -⟩ | ⟨-, v, rfl, M2⟩
      · exact absurd (unhide HK0) h
      obtain ⟨A2, c2, rfl, -, -, -, -⟩ := M2.open_
      have HE5 := hide ((unhide HE4).trans E5)
      clear M2 E5
      go_wp2
      go_ret
      exact ⟨ret_boolv (by simp), (by repeat (first | exact unhide HE5 | refine Ext.alloc ?_ _ | refine Ext.drew ?_ | refine Ext.drewN ?_ _ | (refine Ext.trans ?_ (plus_ext _ _)) | (refine Ext.setCell ?_ (by have := Ext.size unhide HE5; simp; omega) _)))⟩
    · rw [unhide HT] at hsm M
      obtain ⟨A2, c2, rfl, R2, -, hc2, -⟩ := M.open_
      have HR2 := hide R2
      have hdim := Wm.dual_dim hlt
      have HDC := hide (Wm.chk_dual h1 h12 hlt hsm)
      have HDB := hide (Wm.dual_back hlt)
      have HEV := hide (fun x hx y hy => Wm.dual_even (N := N) (x := x) (y := y) (by omega) hlt hx hy)
      have HD16 : Hid (∀ x ∈ Wm.bl (Wm.du N l), x < 65536) := hide (fun x hx => Nat.lt_of_lt_of_le (Wm.bl_lt Wm.du_lt x hx) (Nat.le_trans (Nat.pow_le_pow_right (by omega) h12) (by decide)))
      have HB16 : Hid (∀ x ∈ Wm.bl l, x < 65536) := hide (fun x hx => Nat.lt_of_lt_of_le (Wm.bl_lt hlt x hx) (Nat.le_trans (Nat.pow_le_pow_right (by omega) h12) (by decide)))
      have HW16 : Hid (∀ x ∈ Wm.wl (Wm.bl (Wm.du N l)), x < 65536) := hide (fun x hx => Nat.lt_of_lt_of_le (Wm.wl_lt (Wm.bl_lt Wm.du_lt) x hx) (Nat.le_trans (Nat.pow_le_pow_right (by omega) h12) (by decide)))
      have hdl : (Wm.bl (Wm.du N l)).length ≤ 6 := by omega
      have hM64 : (Wm.wl (Wm.bl (Wm.du N l))).length ≤ 64 := by
        rw [Wm.wl_bl, Wm.wl_len]
        have : 2 ^ (Wm.bl (Wm.du N l)).length ≤ 2 ^ 6 := Nat.pow_le_pow_right (by omega) hdl
        omega
      have CX := hide (fun (W : World) (E : Ext w4 W) => Dual_any N A2 _ c2 (Wm.bl (Wm.du N l)) W ((unhide HR2).keep E) (by omega) (unhide HD16))
      have CY := hide (fun (W : World) (E : Ext w4 W) => Words_any N A2 _ c2 (Wm.bl (Wm.du N l)) W ((unhide HR2).keep E) (by omega) (unhide HD16))
      clear M R2
      go_wp2_with fail
      refine (unhide CB _ (unhide HE4)).mono ?_
      rintro e w5 ⟨ho, E5⟩
      rcases ho with ⟨h, -⟩ | ⟨-, v, rfl, M2⟩
      · exact absurd (unhide HK0) h
      have HE5 := hide ((unhide HE4).trans E5)
      obtain ⟨A3, c3, rfl, R3, -, hc3, -⟩ := M2.open_
      have HR3 := hide R3
      have HE45 := hide E5
      clear M2 R3 CB HE4 E5
      go_wp2_with fail
      have hcl : (w5.alloc (.cells #[.slice A3 (Wm.bl l).length c3] 22)).cell? ⟨w5.heap.size, 0, none⟩ = some (.slice A3 (Wm.bl l).length c3) := by simp [go_sem]
      have hgl : w5.heap.size < (w5.alloc (.cells #[.slice A3 (Wm.bl l).length c3] 22)).heap.size := by simp
      have E56 : Ext w5 (w5.alloc (.cells #[.slice A3 (Wm.bl l).length c3] 22)) := (Ext.refl w5).alloc _
      generalize w5.alloc (.cells #[.slice A3 (Wm.bl l).length c3] 22) = w6 at *
      generalize w5.heap.size = g at *
      have HE6 := hide ((unhide HE5).trans E56)
      have HR36 := hide ((unhide HR3).keep E56)
      have E46 := (unhide HE45).trans E56
      clear HE5 HE45 HR3 E56
      refine (unhide CX _ E46).mono ?_
      rintro e w7 ⟨ho, E7⟩
      rcases ho with ⟨h, -⟩ | ⟨-, ⟨h, -⟩ | ⟨-, v, rfl, M3⟩⟩
      · exact absurd (unhide HDC) h
      · exfalso
        rw [unhide HT, Wm.bl_bl] at h
        omega
      rw [unhide HT, unhide HDB] at M3
      obtain ⟨A4, c4, rfl, R4, -, hc4, -⟩ := M3.open_
      have HR4 := hide R4
      have HE47 := hide (E46.trans E7)
      have HCL := hide (And.intro hcl hgl)
      have HE67 := hide E7
      clear M3 R4 CX E46 E7 hcl hgl HDB
      go_wp2_with fail
      refine (unhide CY _ (unhide HE47)).mono ?_
      rintro e w8 ⟨ho, E8⟩
      rcases ho with ⟨h, -⟩ | ⟨-, v, rfl, M5⟩
      · exact absurd (unhide HDC) h
      obtain ⟨A5, c5, rfl, R5, -, hc5, -⟩ := M5.open_
      have E68 := (unhide HE67).trans E8
      have HR38 := hide ((unhide HR36).keep E68)
      have hcell8 := (E68.cell (p := ⟨g, 0, none⟩) (unhide HCL).2).trans (unhide HCL).1
      have hg8 := Nat.lt_of_lt_of_le (unhide HCL).2 E68.size
      have HCL8 := hide (And.intro hcell8 hg8)
      have HR48 := hide ((unhide HR4).keep E8)
      have HR5 := hide R5
      have HE8 := hide ((unhide HE6).trans E68)
      have hcella : ∀ o, (w8.alloc o).cell? ⟨g, 0, none⟩ = some (.slice A3 (Wm.bl l).length c3) := fun o => (World.cell?_alloc_lt w8 o ⟨g, 0, none⟩ hg8).trans hcell8
      have CC := hide (fun (W : World) (E : Ext w8 W) => contains_none A5 _ c5 g (Wm.wl (Wm.bl (Wm.du N l))) W ((unhide HR5).keep E) hM64 (fun W' x hx E' => du1_ok g A3 _ c3 (Wm.bl l) W' (((E.trans E').cell (p := ⟨g, 0, none⟩) (unhide HCL8).2).trans (unhide HCL8).1) (Nat.lt_of_lt_of_le (unhide HCL8).2 (E.trans E').size) ((unhide HR38).keep (E.trans E')) (by omega) (unhide HB16) x (unhide HW16 x hx) (fun y hy => unhide HEV x hx y hy)))
      have CE := hide (fun (W : World) (E : Ext w8 W) => equal_u16 A4 A3 _ _ c4 c3 (Wm.bl l) (Wm.bl l) W ((unhide HR48).keep E) ((unhide HR38).keep E) (by omega) (by omega))
      rw [decide_eq_true rfl] at CE
      have hdimI : ((Wm.bl l).length : Int) + ((Wm.bl (Wm.du N l)).length : Int) = (N : Int) := by omega
      clear M5 R5 CY E8 HE6 HE67 HE47 HCL HR36 HR4 E68 HDC HEV HD16 HW16 HB16 HK0 hlt hl hk hdim hdl hsm h6
      generalize Wm.wl (Wm.bl (Wm.du N l)) = LD at *
      generalize LD.length = M at *
      generalize (Wm.bl (Wm.du N l)).length = D at *
      generalize (Wm.bl l).length = K at *
      go_wp2_with (go_at_call 12; refine (good_made' [0, 0] _ _ _ _ _ rfl rfl (by decide) (by simp)).mono ?_; rintro e wg ⟨rfl, rfl⟩)
      refine (unhide CC _ (by repeat (first | exact Ext.refl _ | refine Ext.alloc ?_ _ | refine Ext.drew ?_ | refine Ext.drewN ?_ _ | (refine Ext.trans ?_ (plus_ext _ _)) | (refine Ext.setCell ?_ (by have := Ext.size Ext.refl _; simp; omega) _)))).mono ?_
      rintro e w9 ⟨rfl, E9⟩
      have E89 : Ext w8 w9 := Ext.trans ((Ext.refl w8).alloc _) E9
      have hcell9 := (E89.cell (p := ⟨g, 0, none⟩) (unhide HCL8).2).trans (unhide HCL8).1
      have HE9 := hide ((unhide HE8).trans E89)
      have CE9 := hide (unhide CE _ E89)
      clear E9 E89 CC CE hcella hcell8
      go_wp2_with fail
      refine (unhide CE9).mono ?_
      rintro e w10 ⟨rfl, q, rfl⟩
      go_wp2
      go_ret
      exact ⟨ret_boolv (by simp), (by repeat (first | exact unhide HE9 | refine Ext.alloc ?_ _ | refine Ext.drew ?_ | refine Ext.drewN ?_ _ | (refine Ext.trans ?_ (plus_ext _ _)) | (refine Ext.setCell ?_ (by have := Ext.size unhide HE9; simp; omega) _)))⟩
  · obtain ⟨q, hq⟩ : ∃ q, q = Wm.chkL n l := ⟨_, rfl⟩
    have hqB : (q != 0) = true := by rw [hq]; simpa using hk
    have HQ := hide (And.intro hq hk)
    clear hq hk hl
    go_wp2_with fail
    refine (unhide CD _ (unhide HE3)).mono ?_
    rintro e w4 ⟨ho, E4⟩
    have HE4 := hide ((unhide HE3).trans E4)
    clear E4 CD HE3
    rcases ho with ⟨-, rfl⟩ | ⟨h, -⟩
    · rw [← (unhide HQ).1]
      go_wp2_with fail
      refine (unhide CB _ (unhide HE4)).mono ?_
      rintro e w5 ⟨ho, E5⟩
      rcases ho with ⟨-, rfl⟩ | ⟨h, -⟩
      · rw [← (unhide HQ).1]
        have HE5 := hide ((unhide HE4).trans E5)
        clear E5
        go_wp2
        go_ret
        exact ⟨ret_boolv (by simp), (by repeat (first | exact unhide HE5 | refine Ext.alloc ?_ _ | refine Ext.drew ?_ | refine Ext.drewN ?_ _ | (refine Ext.trans ?_ (plus_ext _ _)) | (refine Ext.setCell ?_ (by have := Ext.size unhide HE5; simp; omega) _)))⟩
      · exact absurd h (unhide HQ).2
    · exact absurd h (unhide HQ).2
end Go.Proofs.Ytbejhfafipedmaa

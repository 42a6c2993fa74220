/-
  The law LinearClosed returns true: the walk.
-/
import Derived.Test.YtbejhfafipedmaaLin5
import Derived.BigQuiet
set_option linter.unusedVariables false
set_option linter.unusedSimpArgs false
namespace Go.Proofs.Ytbejhfafipedmaa
open Go.RowKit Go.BigFrame Go.Sort

set_option maxRecDepth 100000 in
set_option maxHeartbeats 4000000 in
theorem closed_law (n : Int) (A : Option Addr) (m c : Nat) (l : List Nat) (i k : Int) (w : World) (S : SliceIn w A m c 1 2 (nats .u16 l)) (hl : ∀ x ∈ l, x < 65536) :
    Calls Try.prog 3 #[.int .i64 n, .slice A m c, .int .i64 i, .int .i64 k] w fun e w' => e = .returned (.bool true) ∧ Ext w w' := by
  have hm63 : m ≤ 9223372036854775807 := by have := S.2.1; have := S.2.2.2.1; omega
  have C0 := hide (words_any w)
  have CW := hide (fun (W : World) (E : Ext w W) => Words_any n A m c l W (S.1.keep E) hm63 hl)
  have CB := hide (fun (W : World) (E : Ext w W) => Base_any n A m c l W (S.1.keep E) hm63 hl)
  clear S
  by_cases hk : Wm.chkL n l = 0
  · obtain ⟨N, rfl, h1, h12, h6, hlt⟩ := Wm.chk_ok hk
    have hLp := Wm.wl_pos l
    have hb6 := Nat.le_trans (Wm.bl_len_le l) h6
    have hLK := Wm.wl_len l
    have hpk := (pow_i64 (Wm.bl l).length (by omega)).1
    rw [← hLK] at hpk
    have hL64 : (Wm.wl l).length ≤ 64 := by
      rw [hLK]
      have : 2 ^ (Wm.bl l).length ≤ 2 ^ 6 := Nat.pow_le_pow_right (by omega) hb6
      omega
    have HW12 := hide (show ∀ x ∈ Wm.wl l, x < 4096 from fun x hx => Wm.wl_lt (n := 12) (Wm.lt12 h12 hlt) x hx)
    have HB12 := hide (show ∀ x ∈ Wm.bl l, x < 65536 from fun x hx => Nat.lt_of_lt_of_le (Wm.bl_lt (n := 12) (Wm.lt12 h12 hlt) x hx) (by decide))
    have HX := hide (show ∀ x y, x ∈ Wm.wl l → y ∈ Wm.wl l → x ^^^ y ∈ Wm.wl l from fun x y hx hy => by
      rw [Wm.wl_mem] at *
      exact Wm.ws_xor l x y hx hy)
    have HF := hide (Wm.wl_first l)
    have HWB := hide (Wm.wl_bl l)
    have HCB := hide (Wm.chk_bl h1 h12 h6 hlt)
    have HK0 := hide hk
    clear hl hlt hk h6 hLK
    obtain ⟨i', i0, i1, -, cI⟩ := within_ex i (Wm.wl l).length (by omega) (by omega)
    obtain ⟨i', rfl⟩ := Int.eq_ofNat_of_zero_le i0
    obtain ⟨k', k0, k1, -, cK⟩ := within_ex k (Wm.wl l).length (by omega) (by omega)
    obtain ⟨k', rfl⟩ := Int.eq_ofNat_of_zero_le k0
    go_enter Try.func3, Try.ntmps3
    go_wp2_with fail
    refine (unhide C0).mono ?_
    rintro e w1 ⟨rfl, E1⟩
    have HE1 := hide E1
    clear C0 E1
    go_wp2_with fail
    refine (unhide CW _ (unhide HE1)).mono ?_
    rintro e w2 ⟨ho, E2⟩
    rcases ho with ⟨h, -⟩ | ⟨-, v, rfl, M1⟩
    · exact absurd (unhide HK0) h
    have HE2 := hide ((unhide HE1).trans E2)
    obtain ⟨A1, c1, rfl, R1, -, hc1, -⟩ := M1.open_
    clear M1 E2 CW HE1
    go_wp2_with fail
    refine (unhide CB _ (unhide HE2)).mono ?_
    rintro e w3 ⟨ho, E3⟩
    rcases ho with ⟨h, -⟩ | ⟨-, v, rfl, M2⟩
    · exact absurd (unhide HK0) h
    have HE3 := hide ((unhide HE2).trans E3)
    obtain ⟨A2, c2, rfl, R2, -, hc2, -⟩ := M2.open_
    have HR1 := hide (R1.keep E3)
    have CW2 := hide (fun (W : World) (E : Ext w3 W) => Words_any (N : Int) A2 (Wm.bl l).length c2 (Wm.bl l) W (R2.keep E) (by omega) (unhide HB12))
    clear M2 E3 CB HE2 R1 R2
    have hL0 : (((Wm.wl l).length : Int) == 0) = false := by rw [beq_eq_false_iff_ne]; omega
    go_wp2_with fail
    refine (unhide cI _).mono ?_
    rintro e w4 ⟨rfl, rfl⟩
    go_wp2_with fail
    refine (unhide cK _).mono ?_
    rintro e w4 ⟨rfl, rfl⟩
    go_wp2_with fail
    refine (unhide CW2 _ (by repeat (first | exact Ext.refl _ | refine Ext.alloc ?_ _ | refine Ext.drew ?_ | refine Ext.drewN ?_ _ | (refine Ext.trans ?_ (plus_ext _ _)) | (refine Ext.setCell ?_ (by have := Ext.size Ext.refl _; simp; omega) _)))).mono ?_
    rintro e w4 ⟨ho, E4⟩
    rcases ho with ⟨h, -⟩ | ⟨-, v, rfl, M3⟩
    · exact absurd (unhide HCB) h
    have HE4 := hide ((unhide HE3).trans E4)
    rw [unhide HWB] at M3
    obtain ⟨A3, c3, rfl, R3, -, hc3, -⟩ := M3.open_
    have HR14 := hide ((unhide HR1).keep E4)
    have HR3 := hide R3
    clear M3 E4 CW2 HE3 R3 HR1
    obtain ⟨b1, o1, rfl, hb1, hci⟩ := (unhide HR14).nat (k := i') (by omega)
    obtain ⟨b1', o1', hA, -, hck⟩ := (unhide HR14).nat (k := k') (by omega)
    obtain ⟨b1'', o1'', hA', -, hc0⟩ := (unhide HR14).nat (k := 0) hLp
    obtain ⟨rfl, rfl⟩ : b1' = b1 ∧ o1' = o1 := by
      injection hA with hA
      injection hA with h1 h2
      exact ⟨h1.symm, h2.symm⟩
    obtain ⟨rfl, rfl⟩ : b1'' = b1' ∧ o1'' = o1' := by
      injection hA' with hA
      injection hA with h1 h2
      exact ⟨h1.symm, h2.symm⟩
    rw [unhide HF] at hc0
    have hmi := getD_mem (Wm.wl l) 0 (k := i') (by omega)
    have hmk := getD_mem (Wm.wl l) 0 (k := k') (by omega)
    have hxy := unhide HX _ _ hmi hmk
    have hxi := unhide HW12 _ hmi
    have hxk := unhide HW12 _ hmk
    generalize (Wm.wl l).getD i' 0 = x at *
    generalize (Wm.wl l).getD k' 0 = y at *
    have hxor := u16_xor_nat x y (by omega) (by omega)
    have CC := hide (fun (W : World) (E : Ext w4 W) => contains_u16 (some ⟨b1'', o1'', none⟩) (Wm.wl l).length c1 (x ^^^ y) (Wm.wl l) W ((unhide HR14).keep E) (fun x hx => Nat.lt_trans (unhide HW12 x hx) (by decide)) (by omega) hxy)
    have CE := hide (fun (W : World) (E : Ext w4 W) => equal_u16 A3 (some ⟨b1'', o1'', none⟩) (Wm.wl l).length (Wm.wl l).length c3 c1 (Wm.wl l) (Wm.wl l) W ((unhide HR3).keep E) ((unhide HR14).keep E) (by omega) (by omega))
    rw [decide_eq_true rfl] at CE
    have hcia : ∀ o, (w4.alloc o).cell? ⟨b1'', o1'' + i', none⟩ = some (.int .u16 (x : Int)) := fun o => (World.cell?_alloc_lt w4 o ⟨b1'', o1'' + i', none⟩ hb1).trans hci
    have hcka : ∀ o, (w4.alloc o).cell? ⟨b1'', o1'' + k', none⟩ = some (.int .u16 (y : Int)) := fun o => (World.cell?_alloc_lt w4 o ⟨b1'', o1'' + k', none⟩ hb1).trans hck
    have hc0a : ∀ o, (w4.alloc o).cell? ⟨b1'', o1'' + 0, none⟩ = some (.int .u16 ((0 : Nat) : Int)) := fun o => (World.cell?_alloc_lt w4 o ⟨b1'', o1'' + 0, none⟩ hb1).trans hc0
    simp only [Nat.add_zero] at hc0a
    rw [show (((0 : Nat) : Int)) = 0 from rfl] at hc0a
    generalize x ^^^ y = z at *
    clear hA hA' hmi hmk hxy hxi hxk HX HF HW12 HB12 HCB HK0 HWB hci hck hc0 cI cK
    generalize (Wm.wl l).length = L at *
    generalize (Wm.bl l).length = K at *
    go_wp2
    refine wp_region_head 4 (fun _ _ d _ _ h => by cases d <;> exact h) (by kernel_rfl) (by kernel_rfl) ?_
    show wpList _ _ _ (_ :: _ :: _ :: _ :: []) _ _
    go_wp2_with (go_at_call 12; refine (good_made' [0, 0] _ _ _ _ w4.drew rfl rfl (by decide) (by simp)).mono ?_; rintro e wg ⟨rfl, rfl⟩)
    show wpQuiet _ _ _ _ (_ :: _ :: _ :: _ :: _ :: _ :: _ :: _ :: _ :: _ :: _ :: _ :: _ :: _ :: _ :: _ :: _ :: _ :: _ :: _ :: _ :: _ :: _ :: _ :: _ :: _ :: _ :: _ :: _ :: _ :: _ :: _ :: _ :: []) _
    repeat (go_big_quiet_step (first | (go_at_call 13; first | (with_reducible exact quiet_add (unhide CC _ (by repeat (first | exact Ext.refl _ | assumption | refine Ext.alloc ?_ _ | refine Ext.drew ?_ | refine Ext.drewN ?_ _ | refine Ext.trans ?_ ‹Ext _ _›)))) | (with_reducible exact Calls.quiet_of (unhide CC _ (by repeat (first | exact Ext.refl _ | assumption | refine Ext.alloc ?_ _ | refine Ext.drew ?_ | refine Ext.drewN ?_ _ | refine Ext.trans ?_ ‹Ext _ _›))))) | (go_at_call 14; first | (with_reducible exact quiet_add (unhide CE _ (by repeat (first | exact Ext.refl _ | assumption | refine Ext.alloc ?_ _ | refine Ext.drew ?_ | refine Ext.drewN ?_ _ | refine Ext.trans ?_ ‹Ext _ _›)))) | (with_reducible exact Calls.quiet_of (unhide CE _ (by repeat (first | exact Ext.refl _ | assumption | refine Ext.alloc ?_ _ | refine Ext.drew ?_ | refine Ext.drewN ?_ _ | refine Ext.trans ?_ ‹Ext _ _›)))))))
    refine wpQuiet_nil ?_
    intro _ hw'
    obtain ⟨nq, hw''⟩ := hw'
    subst hw''
    go_wp2
    go_ret
    exact ⟨ret_boolv (by simp), (by repeat (first | exact unhide HE4 | refine Ext.alloc ?_ _ | refine Ext.drew ?_ | refine Ext.drewN ?_ _ | (refine Ext.trans ?_ (plus_ext _ _)) | (refine Ext.setCell ?_ (by have := Ext.size unhide HE4; simp; omega) _)))⟩
  · obtain ⟨q, hq⟩ : ∃ q, q = Wm.chkL n l := ⟨_, rfl⟩
    have hqB : (q != 0) = true := by rw [hq]; simpa using hk
    have HQ := hide (And.intro hq hk)
    clear hq hk hl
    go_enter Try.func3, Try.ntmps3
    go_wp2_with fail
    refine (unhide C0).mono ?_
    rintro e w1 ⟨rfl, E1⟩
    go_wp2_with fail
    refine (unhide CW _ E1).mono ?_
    rintro e w2 ⟨ho, E2⟩
    rcases ho with ⟨-, rfl⟩ | ⟨h, -⟩
    · rw [← (unhide HQ).1]
      have HE2 := hide (E1.trans E2)
      clear E1 E2
      go_wp2_with fail
      refine (unhide CB _ (unhide HE2)).mono ?_
      rintro e w3 ⟨ho, E3⟩
      rcases ho with ⟨-, rfl⟩ | ⟨h, -⟩
      · rw [← (unhide HQ).1]
        have HE3 := hide ((unhide HE2).trans E3)
        clear E3
        go_wp2
        go_ret
        exact ⟨ret_boolv (by simp), unhide HE3⟩
      · exact absurd h (unhide HQ).2
    · exact absurd h (unhide HQ).2
end Go.Proofs.Ytbejhfafipedmaa

/-
  The walk of the law GridValues.
-/
import Derived.Test.YtifkphlbjjdigaaMxVanderW
set_option linter.unusedVariables false
set_option linter.unusedSimpArgs false
namespace Wm
/-- Horner's loop: j steps done, of N numbers. -/
def hor (f : List Nat) (N x : Nat) : Nat → Nat
  | 0 => 0
  | j + 1 => fmul (hor f N x j) x ^^^ f.getD (N - 1 - j) 0
theorem hor_lt {f : List Nat} (hf : ∀ i, f.getD i 0 < 256) {x : Nat} (hx : x < 256) (N : Nat) : ∀ j, hor f N x j < 256
  | 0 => by show 0 < 256; omega
  | j + 1 => xor_lt (fmul_lt (hor_lt hf hx N j) hx) (hf _)
theorem hor_sum {f : List Nat} (hf : ∀ i, f.getD i 0 < 256) {x : Nat} (hx : x < 256) (N : Nat) : ∀ j, j ≤ N →
    Fld.sm (fun t => Fld.ml (Fld.pw (m8 x) t) (m8 (f.getD t 0))) N = Fld.ad (Fld.sm (fun t => Fld.ml (Fld.pw (m8 x) t) (m8 (f.getD t 0))) (N - j)) (Fld.ml (Fld.pw (m8 x) (N - j)) (m8 (hor f N x j)))
  | 0, _ => by
    show _ = Fld.ad _ (Fld.ml _ (m8 0))
    rw [show (m8 0 : B8) = Fld.z from rfl, Fld.ml_z, Fld.ad_z]; rfl
  | j + 1, h => by
    rw [hor_sum hf hx N j (by omega)]
    obtain ⟨m, hm⟩ : ∃ m, N - j = m + 1 := ⟨N - j - 1, by omega⟩
    rw [hm, show N - (j + 1) = m by omega]
    show Fld.ad (Fld.ad (Fld.sm _ m) (Fld.ml (Fld.pw (m8 x) m) (m8 (f.getD m 0)))) (Fld.ml (Fld.ml (Fld.pw (m8 x) m) (m8 x)) (m8 (hor f N x j))) = Fld.ad (Fld.sm _ m) (Fld.ml (Fld.pw (m8 x) m) (m8 (fmul (hor f N x j) x ^^^ f.getD (N - 1 - j) 0)))
    rw [show N - 1 - j = m by omega, m8_ad (fmul_lt (hor_lt hf hx N j) hx) (hf m), m8_ml (hor_lt hf hx N j) hx, Fld.ad_assoc, Fld.ml_ad, Fld.ml_assoc, Fld.ml_comm (m8 x), Fld.ad_comm (Fld.ml _ (Fld.ml _ _))]
theorem hor_val {l f : List Nat} (hl : ∀ i, l.getD i 0 < 256) (hf : ∀ i, f.getD i 0 < 256) (N i : Nat) : mulT N (fun i j => fpow (l.getD i 0) j) (fun t _ => f.getD t 0) i 0 = hor f N (l.getD i 0) N := by
  have hp : ∀ i j, (fun i j => fpow (l.getD i 0) j) i j < 256 := fun i j => fpow_lt (hl i) j
  have hq : ∀ t j, (fun (t _ : Nat) => f.getD t 0) t j < 256 := fun t _ => hf t
  refine m8_inj (mulS_lt hp hq i 0 N) (hor_lt hf (hl i) N N) ?_
  have e1 : m8 (mulT N (fun i j => fpow (l.getD i 0) j) (fun t _ => f.getD t 0) i 0) = Fld.sm (fun t => Fld.ml (Fld.pw (m8 (l.getD i 0)) t) (m8 (f.getD t 0))) N := by
    have := congrFun (congrFun (mulT_mm hp hq N) i) 0
    refine Eq.trans this ?_
    exact Fld.sm_congr N fun t _ => by
      show Fld.ml (m8 (fpow (l.getD i 0) t)) _ = _
      rw [m8_pw (hl i) t]; rfl
  rw [e1, hor_sum hf (hl i) N N (Nat.le_refl _), Nat.sub_self]
  show Fld.ad Fld.z (Fld.ml Fld.o _) = _
  rw [Fld.z_ad, Fld.o_ml]
end Wm
namespace Go.Proofs.Ytifkphlbjjdigaa
open Go.RowKit Go.BigFrame Wm.Fld

theorem pow_ex1 (i j : Nat) (hi : i < 1) (hj : j < 3) : powM [2] i j = litM [[1, 2, 4]] i j := by
  have : (List.range 1).all (fun i => (List.range 3).all fun j => decide (powM [2] i j = litM [[1, 2, 4]] i j)) = true := by decide +kernel
  exact of_decide_eq_true (List.all_eq_true.1 (List.all_eq_true.1 this i (List.mem_range.2 hi)) j (List.mem_range.2 hj))

set_option maxRecDepth 100000 in
set_option maxHeartbeats 8000000 in
theorem values_law (A : Option Addr) (n c : Nat) (l : List Nat) (B : Option Addr) (n2 c2 : Nat) (f : List Nat) (w : World) (S : SliceIn w A n c 1 1 (nats .u8 l)) (h8 : ∀ x ∈ l, x < 256) (S2 : SliceIn w B n2 c2 1 1 (nats .u8 f)) (h82 : ∀ x ∈ f, x < 256) :
    Calls Try.prog 8 #[.slice A n c, .slice B n2 c2] w fun e w' => e = .returned (.bool true) ∧ Ext w w' := by
  obtain ⟨R, hnc, hrb, hc63, hnil⟩ := S
  obtain ⟨R2, hnc2, hrb2, hc632, hnil2⟩ := S2
  have HR := hide R
  have HR2 := hide R2
  have HL := hide R.numN
  have HL2 := hide R2.numN
  have HL8 := hide (getD_lt8 h8)
  have HF8 := hide (getD_lt8 h82)
  have H8 := hide h8
  have CM := hide Mul_any
  clear R h8 hnil hrb R2 hnil2 hrb2 h82
  go_enter Try.func8, Try.ntmps8
  go_wp2_with fail
  refine (Powers_ok _ 1 1 3 [2] (w.alloc (.cells #[.int .u8 2] 5)) (row_new w #[.int .u8 2] 5 1 1 rfl) (by omega) (by omega) (by decide) (by decide) (by omega) (by omega)).mono ?_
  rintro e w1 ⟨⟨g1, bl1, cp1, rfl, T1⟩, E1⟩
  have HE1 := hide (((Ext.refl w).alloc _).trans E1)
  have HT1 := hide T1
  clear T1 E1
  have HS1 := hide (same_yes (some ⟨g1, 0, none⟩) _ 1 1 1 _ _ (fun _ => 3) cp1 _ _ _ _ ((unhide HT1).keep (((Ext.refl w1).alloc (.cells (nats .u8 [1, 2, 4]).toArray 5)).alloc (.cells #[.slice (some ⟨w1.heap.size, 0, none⟩) 3 3] 26))).tab
    (tabL1 w1 [1, 2, 4] (by decide) (by decide)) (by omega) (fun _ _ => by omega) (fun i j hi hj => pow_ex1 i j hi hj))
  go_wp2_with fail
  refine (unhide HS1).mono ?_
  rintro e w2 ⟨rfl, E2⟩
  have HE2 := hide ((unhide HE1).trans ((((Ext.refl w1).alloc _).alloc _).trans E2))
  clear HS1 E2 HT1
  have CP := hide (Powers_any A n c (n2 : Int) l w2 ((unhide HR).keep (unhide HE2)) hnc hc63 (unhide H8))
  go_wp2_with fail
  refine (unhide CP).mono ?_
  rintro e w4 ⟨ho, E4⟩
  have HE4 := hide ((unhide HE2).trans E4)
  clear CP E4
  rcases ho with ⟨hne, rfl⟩ | ⟨-, hgr, m, hm, hm1, hm2, g, bl, cp, rfl, T⟩
  · have hB : (powErr l (n2 : Int) != 0) = true := by rw [bne_iff_ne]; exact hne
    generalize powErr l (n2 : Int) = r at *
    go_wp2
    go_ret
    exact ⟨rfl, unhide HE4⟩
  · obtain rfl : m = n2 := by omega
    obtain ⟨a1, a2, -⟩ := gridErr_ok hgr
    rw [unhide HL] at a1 a2
    have HT := hide T
    obtain ⟨F, hF⟩ : ∃ F : Nat → Nat → Nat, F = fun t _ => f.getD t 0 := ⟨_, rfl⟩
    have HF := hide hF
    clear T hm hgr hF
    go_wp2
    go_loopw [9, 46] (fun v i wr => ∃ x : Nat, x ≤ m ∧ i = .int .i64 x ∧ ∃ bl cq : Nat → Nat, Hid (Bld 26 w4 wr v x bl cq 1 F)) (fun _ i _ => m - (intOf i).toNat)
    case atStart => exact ⟨0, Nat.zero_le _, rfl, _, _, hide (Bld.nil 26 w4 (fun _ => 0) (fun _ => 0) 1 F)⟩
    case round =>
      obtain ⟨x, hx, rfl, bx, cq, HB⟩ := hrel
      by_cases hlt : x < m
      · have EE := (unhide HE4).trans (unhide HB).ext
        obtain ⟨b, o, rfl, hb, hc⟩ := ((unhide HR2).keep EE).nat hlt
        obtain ⟨Y, hY⟩ : ∃ Y, Y = f.getD x 0 := ⟨_, rfl⟩
        rw [← hY] at hc
        have HY := hide hY
        obtain ⟨wb, hwb⟩ : ∃ wb, wb = wr := ⟨_, rfl⟩
        subst hwb
        have E1 := (Ext.refl wb).alloc (.cells #[.int .u8 (Y : Int)] 5)
        have EN := E1.alloc (.cells #[.slice (some ⟨wb.heap.size, 0, none⟩) 1 1] 26)
        have HEN := hide EN
        have HRX := hide (show ∀ j, j < 1 → ((wb.alloc (.cells #[.int .u8 (Y : Int)] 5)).alloc (.cells #[.slice (some ⟨wb.heap.size, 0, none⟩) 1 1] 26)).cell? ⟨wb.heap.size, j, none⟩ = some (.int .u8 (Y : Int)) ∧ ((wb.alloc (.cells #[.int .u8 (Y : Int)] 5)).alloc (.cells #[.slice (some ⟨wb.heap.size, 0, none⟩) 1 1] 26)).frozen? ⟨wb.heap.size, j, none⟩ = false from fun j hj => by
          obtain rfl : j = 0 := by omega
          have E2 := (Ext.refl (wb.alloc (.cells #[.int .u8 (Y : Int)] 5))).alloc (.cells #[.slice (some ⟨wb.heap.size, 0, none⟩) 1 1] 26)
          have M1 := World.ownsRow_lit (base := wb.heap.size) (e := 5) (size := 1) wb #[.int .u8 (Y : Int)] 1 (Nat.le_refl _) (by unfold maxLen; omega) rfl
          refine ⟨(E2.cell (p := ⟨wb.heap.size, 0, none⟩) (by simp)).trans (by simp), (E2.frozen (p := ⟨wb.heap.size, 0, none⟩) (by simp)).trans ((Made.of_own M1).frozen 0)⟩)
        have HG2 := hide (show wb.heap.size < ((wb.alloc (.cells #[.int .u8 (Y : Int)] 5)).alloc (.cells #[.slice (some ⟨wb.heap.size, 0, none⟩) 1 1] 26)).heap.size from by simp; omega)
        have HOB := hide ((unhide HB).keep EN).own
        have HBD := hide (show (x + 1) * 24 ≤ 140737488355328 ∧ x + 1 ≤ 9223372036854775807 by omega)
        have HBS := hide (show w4.heap.size ≤ ((wb.alloc (.cells #[.int .u8 (Y : Int)] 5)).alloc (.cells #[.slice (some ⟨wb.heap.size, 0, none⟩) 1 1] 26)).heap.size from ((unhide HB).ext.trans EN).size)
        have HONE := hide (show ([.slice (some ⟨wb.heap.size, 0, none⟩) 1 1] : List Value).all (fun u => u.oneCell') = true from by simp [Value.oneCell'])
        have HRN := hide (row_new (wb.alloc (.cells #[.int .u8 (Y : Int)] 5)) #[.slice (some ⟨wb.heap.size, 0, none⟩) 1 1] 26 1 1 rfl)
        clear EE hY E1 EN
        go_wp2_with (at_builtin; refine stop ?_)
        unfold Stop
        refine wpList_app_any rfl _ _ 22 (by rfl) 26 rowM w4.heap.size _ x _ (by rfl) (unhide HOB) (some ⟨wb.heap.size + 1, 0, none⟩) 1 1 [.slice (some ⟨wb.heap.size, 0, none⟩) 1 1] (by rfl) (by have := unhide HRN; simpa using this) (unhide HONE) (unhide HBD) (unhide HBS) ?_
        intro v' w6 hown6 hg6 hat6
        have HBN := hide ((unhide HB).add (unhide HEN) (b := wb.heap.size) (c := 1) (f := fun _ => Y) (Nat.le_refl _) (unhide HG2) ⟨Nat.le_refl _, by omega⟩ (unhide HRX) hown6 hg6 (by
          rcases hat6 with h | h
          · exact .inl h
          · exact .inr ⟨_, h, Nat.le_refl _⟩))
        have HBN2 := hide ((unhide HBN).congr (M' := F) fun i j hi hj => by
          by_cases c : i = x
          · subst c; rw [upf_same, unhide HY, unhide HF]
          · rw [upf_ne _ _ c])
        clear hown6 hg6 hat6 HBN
        go_wp2
        go_roundw
        case rel => exact ⟨x + 1, by omega, by go_num, _, _, HBN2⟩
        case measure => simp [intOf]; omega
      · obtain rfl : m = x := by omega
        obtain ⟨gc, cc, rfl, hcc, TC⟩ := (unhide HB).done (by omega) (fun i j => by rw [unhide HF]; exact unhide HF8 i)
        have HEF := hide ((unhide HE4).trans (unhide HB).ext)
        have CX := hide (MMul_any _ n n _ _ _ _ _ m cc _ _ _ _ wr ((unhide HT).keep (unhide HB).ext).tab TC.tab (by omega) (by omega))
        have x1 : mulErr n (fun _ => m) m (fun _ => 1) = 0 := by
          unfold mulErr
          rw [if_neg (by rw [chkM_const a1 a2 hm1 hm2]; decide), if_neg (by rw [chkM_const hm1 hm2 (Nat.le_refl _) (by omega)]; decide), if_neg (by simp)]
        have HX1 := hide x1
        clear TC HB x1
        go_wp2_with fail
        refine (unhide CX).mono ?_
        rintro e w5 ⟨ho, E5⟩
        have HE5 := hide ((unhide HEF).trans E5)
        clear CX E5
        rcases ho with ⟨hne, -⟩ | ⟨-, -, -, -, g3, bl3, cp3, rfl, TV⟩
        · exact absurd (unhide HX1) hne
        have HTV := hide TV
        have nB : ((n : Int) != (n : Int)) = false := by simp
        clear TV
        go_wp2
        go_loopw [73] (fun i wz => ∃ x : Nat, x ≤ n ∧ i = .int .i64 x ∧ ∃ q : Nat, wz = w5.drewN q) (fun i _ => n - (intOf i).toNat)
        case atStart => exact ⟨0, Nat.zero_le _, rfl, 0, rfl⟩
        case round =>
          obtain ⟨x, hx, rfl, q, rfl⟩ := hrel
          by_cases hlt : x < n
          · obtain ⟨b, o, rfl, hb, hc⟩ := ((unhide HR).keep ((unhide HE5).drewN q)).nat hlt
            obtain ⟨X, hX⟩ : ∃ X, X = l.getD x 0 := ⟨_, rfl⟩
            have hXl : X < 256 := by rw [hX]; exact unhide HL8 x
            rw [← hX] at hc
            have HVAL := hide (show Wm.mulT m (powM l) F x 0 = Wm.hor f m X m from by
              rw [unhide HF, hX]; exact Wm.hor_val (unhide HL8) (unhide HF8) m x)
            have HX := hide hX
            clear hX
            obtain ⟨w6, hw6⟩ : ∃ w6, w6 = w5.drewN q := ⟨_, rfl⟩
            have HW6 := hide hw6
            have HE6 := hide (show Ext w w6 from by rw [hw6]; exact (unhide HE5).drewN q)
            have HTV6 := hide ((unhide HTV).keep (show Ext w5 w6 from by rw [hw6]; exact (Ext.refl w5).drewN q))
            rw [← hw6] at hc ⊢
            clear hw6
            have hm0 : 1 ≤ m := hm1
            go_wp2
            go_loopw [16, 17] (fun y k wz => ∃ j : Nat, j ≤ m ∧ k = .int .i64 ((m : Int) - 1 - (j : Int)) ∧ (∃ Y : Nat, Hid (Y = Wm.hor f m X j) ∧ y = .int .u8 (Y : Int)) ∧ ∃ q2 : Nat, wz = w6.drewN q2) (fun _ k _ => (intOf k + 1).toNat)
            case atStart => exact ⟨0, Nat.zero_le _, by first | rfl | (exact num_eqX (by omega)), ⟨0, hide rfl, rfl⟩, 0, rfl⟩
            case round =>
              obtain ⟨j, hj, rfl, ⟨Y, HY, rfl⟩, q2, rfl⟩ := hrel
              have hYl : Y < 256 := by rw [unhide HY]; exact Wm.hor_lt (unhide HF8) hXl m j
              obtain ⟨w7, hw7⟩ : ∃ w7, w7 = w6.drewN q2 := ⟨_, rfl⟩
              have HW7 := hide hw7
              have HE7 := hide (show Ext w w7 from by rw [hw7]; exact (unhide HE6).drewN q2)
              have HTV7 := hide ((unhide HTV6).keep (show Ext w6 w7 from by rw [hw7]; exact (Ext.refl w6).drewN q2))
              rw [← hw7]
              clear hw7
              by_cases hjm : j < m
              · obtain ⟨p, hp⟩ : ∃ p, p = m - 1 - j := ⟨_, rfl⟩
                have hpI : (m : Int) - 1 - (j : Int) = (p : Int) := by omega
                have hpm : p < m := by omega
                obtain ⟨b2, o2, rfl, hb2, hc2⟩ := ((unhide HR2).keep (unhide HE7)).nat hpm
                obtain ⟨Z, hZ⟩ : ∃ Z, Z = f.getD p 0 := ⟨_, rfl⟩
                have hZl : Z < 256 := by rw [hZ]; exact unhide HF8 p
                rw [← hZ] at hc2
                have C := hide (fun w => unhide CM Y X hYl hXl w)
                obtain ⟨G, hG⟩ : ∃ G, G = Wm.fmul Y X := ⟨_, rfl⟩
                have hGl : G < 256 := by rw [hG]; exact Wm.fmul_lt hYl hXl
                rw [← hG] at C
                have hxo := u8_xor_nat G Z hGl hZl
                have HN := hide (show G ^^^ Z = Wm.hor f m X (j + 1) from by rw [hG, hZ, hp, unhide HY]; rfl)
                have hp0 : (0 : Int) ≤ (p : Int) := by omega
                have hpmI : (p : Int) < (m : Int) := by omega
                have HPI := hide hpI
                rw [hpI]
                clear hp hZ hG hpI
                generalize G ^^^ Z = U at *
                go_upto_region 23 with fail
                go_quiet ((go_at_call 20; with_reducible exact Calls.quiet_of (drew_of_same (unhide C _))))
                go_wp2
                go_roundw
                case rel => exact ⟨j + 1, by omega, num_eqX (by have := unhide HPI; omega), ⟨U, HN, rfl⟩, q2 + nq, by rw [unhide HW7, World.drewN_drewN]⟩
                case measure => have := unhide HPI; first | (simp [intOf]; done) | (simp [intOf]; omega)
              · obtain rfl : m = j := by omega
                have hpI : (m : Int) - 1 - (m : Int) = -1 := by omega
                have hh := (unhide HTV7).hd x hlt
                have hv := (unhide HTV7).cell x 0 hlt (by omega)
                rw [unhide HVAL, ← unhide HY] at hv
                have hYB : ((Y : Int) != (Y : Int)) = false := by simp
                rw [hpI]
                generalize bl3 x = b3 at *
                generalize cp3 x = c3 at *
                go_wp2
                go_roundw
                case rel => exact ⟨x + 1, by omega, by go_num, q + q2, by rw [unhide HW7, unhide HW6, World.drewN_drewN]⟩
                case measure => simp [intOf]; omega
          · obtain rfl : n = x := by omega
            go_wp2
            go_ret
            exact ⟨rfl, (unhide HE5).drewN q⟩
end Go.Proofs.Ytifkphlbjjdigaa

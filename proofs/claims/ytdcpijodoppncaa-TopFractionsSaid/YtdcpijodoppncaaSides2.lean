/-
  The contract of frac.Near.
-/
import Derived.Test.YtdcpijodoppncaaSides1
import Derived.Test.YtdcpijodoppncaaTri
import Derived.Deep.Cut
import Derived.Deep.CutRange
set_option linter.unusedVariables false
set_option linter.unusedSimpArgs false
namespace Go.Proofs.Ytdcpijodoppncaa
open Go.RowKit Go.BigFrame
attribute [local go_sem] Nat.lt_add_right

/-- What Near tells. -/
def NearPost (p Q most : Nat) (e : Ending) : Prop := ∃ s t u v, Wm.Low p Q most s t ∧ Wm.High p Q most u v ∧ e = .returned (.tuple #[.agg #[.int .i64 (s : Nat), .int .i64 (t : Nat)], .agg #[.int .i64 (u : Nat), .int .i64 (v : Nat)], .int .i64 0])

set_option maxRecDepth 100000 in
set_option maxHeartbeats 4000000 in
theorem Near_ok (p Q most : Nat) (w : World) (hp : p ≤ 1000000) (hQ : 1 ≤ Q) (hQ6 : Q ≤ 1000000) (hm : 1 ≤ most) (hm6 : most ≤ 1000000) :
    Calls Try.prog 8 #[.agg #[.int .i64 p, .int .i64 Q], .int .i64 most] w fun e w' => NearPost p Q most e ∧ Ext w w' := by
  have cr : Hid (∀ w : World, Calls Try.prog 22 #[.agg #[.int .i64 p, .int .i64 Q]] w fun e w' => e = .returned (.bool true) ∧ Ext w w') := hide (fun w => (right_any p Q w).mono fun e w' ⟨h1, h2⟩ => ⟨h1.trans (by unfold rightB; rw [if_pos (by omega)]), h2⟩)
  have d1 : decide ((most : Int) < 1) = false := decide_eq_false (by omega)
  have d2 : decide (1000000 < (most : Int)) = false := decide_eq_false (by omega)
  have d3 : decide (most < 1) = false := decide_eq_false (by omega)
  have d4 : decide (1000000 < most) = false := decide_eq_false (by omega)
  have Q0 : ((Q : Int) == 0) = false := by rw [beq_eq_false_iff_ne]; omega
  have Q0' : ¬ (Q : Int) = 0 := by omega
  have Q0'' : ¬ Q = 0 := by omega
  go_enter Try.func8, Try.ntmps8
  go_wp2_with fail
  refine (unhide cr _).mono ?_
  rintro e w1 ⟨rfl, E1⟩
  have x0 := E1.keep (a := ⟨w.heap.size, 0, none⟩) (v := .int .i64 p) (by simp [go_sem])
  have x1 := E1.keep (a := ⟨w.heap.size, 1, none⟩) (v := .int .i64 Q) (by simp [go_sem])
  have r0 := E1.keep (a := ⟨w.heap.size + 1, 0, none⟩) (v := .int .i64 0) (by simp [go_sem])
  have r1 := E1.keep (a := ⟨w.heap.size + 1, 1, none⟩) (v := .int .i64 0) (by simp [go_sem])
  have r2 := E1.keep (a := ⟨w.heap.size + 2, 0, none⟩) (v := .int .i64 0) (by simp [go_sem])
  have r3 := E1.keep (a := ⟨w.heap.size + 2, 1, none⟩) (v := .int .i64 0) (by simp [go_sem])
  have rf0 : w1.frozen? ⟨w.heap.size + 1, 0, none⟩ = false := (E1.frozen (p := ⟨w.heap.size + 1, 0, none⟩) (by simp)).trans (by simp [go_sem])
  have rf1 : w1.frozen? ⟨w.heap.size + 1, 1, none⟩ = false := (E1.frozen (p := ⟨w.heap.size + 1, 1, none⟩) (by simp)).trans (by simp [go_sem])
  have rf2 : w1.frozen? ⟨w.heap.size + 2, 0, none⟩ = false := (E1.frozen (p := ⟨w.heap.size + 2, 0, none⟩) (by simp)).trans (by simp [go_sem])
  have rf3 : w1.frozen? ⟨w.heap.size + 2, 1, none⟩ = false := (E1.frozen (p := ⟨w.heap.size + 2, 1, none⟩) (by simp)).trans (by simp [go_sem])
  have F1 : Ext w w1 := Ext.trans (by repeat (first | exact Ext.refl w | refine Ext.alloc ?_ _ | refine Ext.drew ?_ | refine Ext.drewN ?_ _ | (refine Ext.trans ?_ (plus_ext _ _)) | (refine Ext.setCell ?_ (by have := Ext.size Ext.refl w; simp; omega) _))) E1
  have S1 : w.heap.size + 3 ≤ w1.heap.size := by have := E1.size; simpa using this
  clear E1 cr
  obtain ⟨fl, hfl⟩ : ∃ f, p / Q = f := ⟨_, rfl⟩
  obtain ⟨ce, hce⟩ : ∃ f, (p + Q - 1) / Q = f := ⟨_, rfl⟩
  have t1 : (p : Int).tdiv (Q : Int) = (fl : Int) := by rw [← hfl]; rfl
  have t2 : ((p : Int) + (Q : Int) - 1).tdiv (Q : Int) = (ce : Int) := by
    rw [← hce, show (p : Int) + (Q : Int) - 1 = ((p + Q - 1 : Nat) : Int) by omega]; rfl
  have t1' : (p : Int) / (Q : Int) = (fl : Int) := by rw [← hfl]; rfl
  have t2' : ((p : Int) + (Q : Int) - 1) / (Q : Int) = (ce : Int) := by
    rw [← hce, show (p : Int) + (Q : Int) - 1 = ((p + Q - 1 : Nat) : Int) by omega]; rfl
  have fl6 : (fl : Int) ≤ 1000000 := by have : p / Q ≤ p := Nat.div_le_self _ _; omega
  have ce6 : (ce : Int) ≤ 2000000 := by have : (p + Q - 1) / Q ≤ p + Q - 1 := Nat.div_le_self _ _; omega
  have pQ6 : (p : Int) + (Q : Int) - 1 ≤ 2000000 := by omega
  have pQ0 : 0 ≤ (p : Int) + (Q : Int) - 1 := by omega
  have HFL := hide hfl
  have HCE := hide hce
  clear hfl hce
  have x0a : ∀ o, (w1.alloc o).cell? ⟨w.heap.size, 0, none⟩ = some (.int .i64 p) := fun o => (World.cell?_alloc_lt w1 o ⟨w.heap.size, 0, none⟩ (by simp; omega)).trans x0
  have x1a : ∀ o, (w1.alloc o).cell? ⟨w.heap.size, 1, none⟩ = some (.int .i64 Q) := fun o => (World.cell?_alloc_lt w1 o ⟨w.heap.size, 1, none⟩ (by simp; omega)).trans x1
  have x0b : ∀ o o', ((w1.alloc o).alloc o').cell? ⟨w.heap.size, 0, none⟩ = some (.int .i64 p) := fun o o' => (World.cell?_alloc_lt (w1.alloc o) o' ⟨w.heap.size, 0, none⟩ (by simp; omega)).trans (x0a o)
  have x1b : ∀ o o', ((w1.alloc o).alloc o').cell? ⟨w.heap.size, 1, none⟩ = some (.int .i64 Q) := fun o o' => (World.cell?_alloc_lt (w1.alloc o) o' ⟨w.heap.size, 1, none⟩ (by simp; omega)).trans (x1a o)
  go_upto_region 3 with fail
  go_cut [7, 8] from 25 to 40 (fun a b wx => ∃ lo hi, a = .pointer (some ⟨lo, 0, none⟩) ∧ b = .pointer (some ⟨hi, 0, none⟩) ∧ lo ≠ hi ∧ w1.heap.size ≤ lo ∧ w1.heap.size ≤ hi ∧ lo < wx.heap.size ∧ hi < wx.heap.size ∧ Two wx lo fl 1 ∧ Two wx hi ce 1 ∧ Ext w1 wx)
  case first =>
    go_region
    all_goals
      go_wp2_with fail
      go_meet
      case rel =>
        first
        | exact ⟨w1.heap.size, w1.heap.size + 1, rfl, rfl, by omega, by omega, by omega, by simp; omega, by simp, two_fst _ _ _ _, two_snd _ _ _ _, (((Ext.refl w1).alloc _).alloc _).drew⟩
        | exact ⟨w1.heap.size + 1, w1.heap.size, rfl, rfl, by omega, by omega, by omega, by simp, by simp; omega, two_snd _ _ _ _, two_fst _ _ _ _, (((Ext.refl w1).alloc _).alloc _).drew⟩
  case rest =>
    obtain ⟨lo, hi, rfl, rfl, hne, hlo1, hhi1, hlo2, hhi2, l0, h0, FW⟩ := hcut
    have X0 := hide x0
    have X1 := hide x1
    have R0 := hide r0
    have R1 := hide r1
    have R2 := hide r2
    have R3 := hide r3
    have RF := hide (And.intro rf0 (And.intro rf1 (And.intro rf2 rf3)))
    clear rf0 rf1 rf2 rf3
    clear x0 x1 r0 r1 r2 r3 x0a x1a x0b x1b t1 t2 t1' t2' fl6 ce6 pQ6 pQ0
    go_wp2
    go_loopw [9] (fun i wr => ∃ k lp lq hp hq : Nat, 1 ≤ k ∧ k ≤ most ∧ i = .int .i64 ((k + 1 : Nat) : Int) ∧ Hid (Wm.LowAt p Q k lp lq) ∧ Hid (Wm.HighAt p Q k hp hq) ∧ Two wr lo lp lq ∧ Two wr hi hp hq ∧ lo < wr.heap.size ∧ hi < wr.heap.size ∧ Ext w1 wr) (fun i _ => most + 1 - (intOf i).toNat)
    case atStart => exact ⟨1, fl, 1, ce, 1, Nat.le_refl _, hm, rfl, hide (by rw [← unhide HFL]; have := Wm.LowAt.start p Q; exact this), hide (by rw [← unhide HCE]; exact Wm.HighAt.start p Q), l0, h0, hlo2, hhi2, FW⟩
    case round =>
      obtain ⟨k, lp, lq, hp', hq, hk1, hkm, rfl, hL, hH, hlw, hhw, sl, sh, hext⟩ := hrel
      have y0 := hext.keep (unhide X0)
      have y1 := hext.keep (unhide X1)
      by_cases hlt : k < most
      · have c0 := hlw.c0
        have c1 := hlw.c1
        have bl := Wm.LowAt.bound (unhide hL) hp hQ (show k ≤ 1000000 by omega)
        have bh := Wm.HighAt.bound (unhide hH) hp hQ hQ6 (show k ≤ 1000000 by omega)
        obtain ⟨A, hA⟩ : ∃ A, p * (k + 1) / Q = A := ⟨_, rfl⟩
        obtain ⟨B, hB⟩ : ∃ B, (p * (k + 1) + Q - 1) / Q = B := ⟨_, rfl⟩
        have pk : ((p * (k + 1) : Nat) : Int) = (p : Int) * ((k + 1 : Nat) : Int) := Int.natCast_mul _ _
        have pkb : p * (k + 1) ≤ 1000000 * 1000000 := Nat.mul_le_mul hp (by omega)
        have A1 : A ≤ 1000000000000 := by rw [← hA]; exact Nat.le_trans (Nat.div_le_self _ _) (by omega)
        have B1 : B ≤ 1000001000000 := by rw [← hB]; exact Nat.le_trans (Nat.div_le_self _ _) (by omega)
        have hlowkeep := hide (fun h => (unhide hL).keep h)
        have hlownext := hide (fun h => (unhide hL).next h)
        have hhighkeep := hide (fun h => (unhide hH).keep h)
        have hhighnext := hide (fun h => (unhide hH).next h)
        rw [hA] at hlowkeep hlownext
        rw [hB] at hhighkeep hhighnext
        obtain ⟨j, hj⟩ : ∃ j, k + 1 = j := ⟨_, rfl⟩
        rw [hj] at hlowkeep hlownext hhighkeep hhighnext pk pkb ⊢
        have tA : ((p : Int) * (j : Int)).tdiv (Q : Int) = (A : Int) := by rw [← pk, ← hj, ← hA]; rfl
        have tB : ((p : Int) * (j : Int) + (Q : Int) - 1).tdiv (Q : Int) = (B : Int) := by
          rw [← pk, ← hj, ← hB, show ((p * (k + 1) : Nat) : Int) + (Q : Int) - 1 = ((p * (k + 1) + Q - 1 : Nat) : Int) by omega]; rfl
        have tA' : (p : Int) * (j : Int) / (Q : Int) = (A : Int) := by rw [← pk, ← hj, ← hA]; rfl
        have tB' : ((p : Int) * (j : Int) + (Q : Int) - 1) / (Q : Int) = (B : Int) := by
          rw [← pk, ← hj, ← hB, show ((p * (k + 1) : Nat) : Int) + (Q : Int) - 1 = ((p * (k + 1) + Q - 1 : Nat) : Int) by omega]; rfl
        have p0 : 0 ≤ (p : Int) * (j : Int) := by omega
        have p1 : (p : Int) * (j : Int) ≤ 1000000000000 := by omega
        have jm : (j : Int) ≤ (most : Int) := by omega
        have j1 : j ≤ 1000000 := by omega
        have m1 : lp * j ≤ 1000000000000 * 1000000 := Nat.mul_le_mul bl.1 j1
        have m2 : A * lq ≤ 1000000000000 * 1000000 := Nat.mul_le_mul A1 bl.2
        have m3 : B * hq ≤ 1000001000000 * 1000000 := Nat.mul_le_mul B1 bh.2
        have m4 : hp' * j ≤ 1000001000000 * 1000000 := Nat.mul_le_mul bh.1 j1
        have e1 : ((lp * j : Nat) : Int) = (lp : Int) * (j : Int) := Int.natCast_mul _ _
        have e2 : ((A * lq : Nat) : Int) = (A : Int) * (lq : Int) := Int.natCast_mul _ _
        have e3 : ((B * hq : Nat) : Int) = (B : Int) * (hq : Int) := Int.natCast_mul _ _
        have e4 : ((hp' * j : Nat) : Int) = (hp' : Int) * (j : Int) := Int.natCast_mul _ _
        have C1 := hide (fun w : World => less_any lp lq A j w (by omega) (by omega))
        have C2 := hide (fun w : World => less_any B j hp' hq w (by omega) (by omega))
        obtain ⟨b1, hb1⟩ : ∃ b, decide ((lp : Int) * (j : Int) < (A : Int) * (lq : Int)) = b := ⟨_, rfl⟩
        obtain ⟨b2, hb2⟩ : ∃ b, decide ((B : Int) * (hq : Int) < (hp' : Int) * (j : Int)) = b := ⟨_, rfl⟩
        rw [hb1] at C1
        rw [hb2] at C2
        have HB1 := hide (show b1 = decide (lp * j < A * lq) by rw [← hb1]; apply decide_eq_decide.2; omega)
        have HB2 := hide (show b2 = decide (B * hq < hp' * j) by rw [← hb2]; apply decide_eq_decide.2; omega)
        have HJ := hide hj
        have HKM := hide hkm
        have hlo3 : w1.heap.size ≤ lo := hlo1
        have nlo : lo ≠ wr.heap.size := by omega
        have nhi : hi ≠ wr.heap.size := by omega
        have wA : wrap64 (A : Int) = (A : Int) := IntWalk.wrap64_in _ (by omega)
        have wB : wrap64 (B : Int) = (B : Int) := IntWalk.wrap64_in _ (by omega)
        clear pk pkb A1 B1 bl bh hA hB m1 m2 m3 m4 e1 e2 e3 e4 hb1 hb2 hj hL hH hkm
        have c0a : ∀ o, (wr.alloc o).cell? ⟨lo, 0, none⟩ = some (.int .i64 lp) := fun o => (World.cell?_alloc_lt wr o ⟨lo, 0, none⟩ sl).trans c0
        have c1a : ∀ o, (wr.alloc o).cell? ⟨lo, 1, none⟩ = some (.int .i64 lq) := fun o => (World.cell?_alloc_lt wr o ⟨lo, 1, none⟩ sl).trans c1
        go_wp2_with fail
        try rw [wA]
        refine (unhide C1 _).mono ?_
        rintro e w2 ⟨rfl, E2⟩
        have d0 := E2.keep (a := ⟨wr.heap.size, 0, none⟩) (v := .int .i64 A) (by simp [go_sem])
        have d1 := E2.keep (a := ⟨wr.heap.size, 1, none⟩) (v := .int .i64 j) (by simp [go_sem])
        have E3 : Ext wr w2 := ((Ext.refl wr).alloc _).trans E2
        have hl2 := hlw.keep sl E3
        have hh2 := hhw.keep sh E3
        have s2 := E3.size
        have G2 : Ext w1 w2 := hext.trans E3
        have z0 := hl2.c0
        have z1 := hl2.c1
        have f0 := hl2.fr 0
        have f1 := hl2.fr 1
        clear E2 c0 c1 c0a c1a y0 y1
        go_upto_if 57 with fail
        go_cut [] from 41 to 75 (fun wx => ∃ lp' lq' : Nat, Hid (Wm.LowAt p Q j lp' lq') ∧ Two wx lo lp' lq' ∧ Two wx hi hp' hq ∧ w2.heap.size ≤ wx.heap.size ∧ Ext w1 wx)
        case first =>
          cases b1
          · go_wp2_with fail
            go_meet
            case rel => exact ⟨lp, lq, hide (unhide hlowkeep (by have := unhide HB1; simpa using this)), hl2, hh2, Nat.le_refl _, G2⟩
          · go_wp2_with fail
            go_meet
            case rel => exact ⟨A, j, hide (unhide hlownext (by have := unhide HB1; simpa using this)), hl2.set A j, (hh2.other hne).other hne, by simp, (G2.setCell hlo1 _).setCell hlo1 _⟩
        case rest =>
          obtain ⟨lp', lq', hL', hl3, hh3, s3, G3⟩ := hcut
          have y0 := G3.keep (unhide X0)
          have y1 := G3.keep (unhide X1)
          have c0 := hh3.c0
          have c1 := hh3.c1
          have s4 : wr.heap.size ≤ wc.heap.size := Nat.le_trans s2 s3
          have sl3 : lo < wc.heap.size := by omega
          have sh3 : hi < wc.heap.size := by omega
          have nlo3 : lo ≠ wc.heap.size := by omega
          have nhi3 : hi ≠ wc.heap.size := by omega
          have c0a : ∀ o, (wc.alloc o).cell? ⟨hi, 0, none⟩ = some (.int .i64 hp') := fun o => (World.cell?_alloc_lt wc o ⟨hi, 0, none⟩ sh3).trans c0
          have c1a : ∀ o, (wc.alloc o).cell? ⟨hi, 1, none⟩ = some (.int .i64 hq) := fun o => (World.cell?_alloc_lt wc o ⟨hi, 1, none⟩ sh3).trans c1
          clear hl2 hh2 z0 z1 f0 f1 d0 d1 E3 G2
          go_wp2_with fail
          try rw [wB]
          refine (unhide C2 _).mono ?_
          rintro e w4 ⟨rfl, E4⟩
          have d0 := E4.keep (a := ⟨wc.heap.size, 0, none⟩) (v := .int .i64 B) (by simp [go_sem])
          have d1 := E4.keep (a := ⟨wc.heap.size, 1, none⟩) (v := .int .i64 j) (by simp [go_sem])
          have E5 : Ext wc w4 := ((Ext.refl wc).alloc _).trans E4
          have hl5 := hl3.keep sl3 E5
          have hh5 := hh3.keep sh3 E5
          have s5 := E5.size
          have G5 : Ext w1 w4 := G3.trans E5
          have z0 := hh5.c0
          have z1 := hh5.c1
          have f0 := hh5.fr 0
          have f1 := hh5.fr 1
          clear E4 c0 c1 c0a c1a y0 y1
          have hj1 := unhide HJ
          cases b2
          · have hn := hide (unhide hhighkeep (by have := unhide HB2; simpa using this))
            go_wp2
            go_roundw
            case rel => exact ⟨j, lp', lq', hp', hq, by omega, by omega, by go_num, hL', hn, hl5, hh5, by omega, by omega, G5⟩
            case measure => simp [intOf]; omega
          · have hn := hide (unhide hhighnext (by have := unhide HB2; simpa using this))
            have K1 := (hl5.other (v := .int .i64 B) (j := 0) hne.symm).other (v := .int .i64 j) (j := 1) hne.symm
            have K2 := hh5.set B j
            have K3 := (G5.setCell (p := ⟨hi, 0, none⟩) hhi1 (.int .i64 B)).setCell (p := ⟨hi, 1, none⟩) hhi1 (.int .i64 j)
            go_wp2
            go_roundw
            case rel => exact ⟨j, lp', lq', B, j, by omega, by omega, by go_num, hL', hn, K1, K2, by simp; omega, by simp; omega, K3⟩
            case measure => simp [intOf]; omega
      · obtain rfl : k = most := by omega
        have c0 := hlw.c0
        have c1 := hlw.c1
        have c2 := hhw.c0
        have c3 := hhw.c1
        have bl := Wm.LowAt.bound (unhide hL) hp hQ hm6
        have bh := Wm.HighAt.bound (unhide hH) hp hQ hQ6 hm6
        obtain ⟨s, hs⟩ : ∃ s, lp = Nat.gcd lp lq * s := Nat.gcd_dvd_left lp lq
        obtain ⟨t, ht⟩ : ∃ t, lq = Nat.gcd lp lq * t := Nat.gcd_dvd_right lp lq
        obtain ⟨u, hu⟩ : ∃ u, hp' = Nat.gcd hp' hq * u := Nat.gcd_dvd_left hp' hq
        obtain ⟨v, hv⟩ : ∃ v, hq = Nat.gcd hp' hq * v := Nat.gcd_dvd_right hp' hq
        have LO := hide ((unhide hL).low hQ rfl hs ht)
        have HI := hide ((unhide hH).high hQ rfl hu hv)
        have q1 := (unhide hL).1
        have q2 := (unhide hH).1
        have C1 := hide (fun w : World => lowest_ok lp lq _ s t w q1 (by omega) (by omega) rfl hs ht)
        have C2 := hide (fun w : World => lowest_ok hp' hq _ u v w q2 (by omega) (by omega) rfl hu hv)
        have D1 := hide (fun (x : World) => ext_call (w := wr.drew) (x := x) (unhide C1 (plus wr.drew x)))
        have D2 := hide (fun (x : World) => ext_call (w := wr.drew) (x := x) (unhide C2 (plus wr.drew x)))
        have Z0 : ∀ x, (plus wr.drew x).cell? ⟨lo, 0, none⟩ = some (.int .i64 lp) := fun x => plus_keep (w := wr.drew) c0 x
        have Z1 : ∀ x, (plus wr.drew x).cell? ⟨lo, 1, none⟩ = some (.int .i64 lq) := fun x => plus_keep (w := wr.drew) c1 x
        have Z2 : ∀ x, (plus wr.drew x).cell? ⟨hi, 0, none⟩ = some (.int .i64 hp') := fun x => plus_keep (w := wr.drew) c2 x
        have Z3 : ∀ x, (plus wr.drew x).cell? ⟨hi, 1, none⟩ = some (.int .i64 hq) := fun x => plus_keep (w := wr.drew) c3 x
        clear hs ht hu hv hL hH q1 q2 bl bh C1 C2
        go_wp2_with fail
        refine wp_region_tail 10 (fun w w' => ∃ x, w' = plus w x) (fun w => Ext.plus (Ext.refl w)) (fun _ _ d _ _ h => by cases d <;> exact h) (by kernel_rfl) (by kernel_rfl) ?_
        show wpQuiet _ _ _ _ (_ :: _ :: _ :: _ :: _ :: _ :: _ :: _ :: _ :: _ :: []) _
        repeat (go_big_quiet_step ((go_at_call 25; first | (with_reducible exact unhide D1 _) | (with_reducible exact unhide D2 _))))
        refine wpQuiet_nil ?_
        rintro wq ⟨xq, rfl⟩
        have EX : Ext w1 (plus wr.drew xq) := (hext.drew).trans (plus_ext wr.drew xq)
        have g0 := EX.keep (unhide R0)
        have g1 := EX.keep (unhide R1)
        have g2 := EX.keep (unhide R2)
        have g3 := EX.keep (unhide R3)
        obtain ⟨rf0, rf1, rf2, rf3⟩ := unhide RF
        have k0 := (EX.frozen (p := ⟨w.heap.size + 1, 0, none⟩) (by simp; omega)).trans rf0
        have k1 := (EX.frozen (p := ⟨w.heap.size + 1, 1, none⟩) (by simp; omega)).trans rf1
        have k2 := (EX.frozen (p := ⟨w.heap.size + 2, 0, none⟩) (by simp; omega)).trans rf2
        have k3 := (EX.frozen (p := ⟨w.heap.size + 2, 1, none⟩) (by simp; omega)).trans rf3
        clear rf0 rf1 rf2 rf3
        generalize plus wr.drew xq = wq at *
        show wpList _ _ _ (_ :: _ :: _ :: []) _ _
        go_wp2
        refine bodyPost_ret (v := .tuple #[.agg #[.int .i64 s, .int .i64 t], .agg #[.int .i64 u, .int .i64 v], .int .i64 0]) (by simp [results, Try.results8, go_sem, g0, g1, g2, g3, k0, k1, k2, k3]) rfl ⟨⟨s, t, u, v, unhide LO, unhide HI, rfl⟩, ?_⟩
        have GX := F1.trans EX
        exact (((GX.setCell (p := ⟨w.heap.size + 1, 0, none⟩) (by simp) _).setCell (p := ⟨w.heap.size + 1, 1, none⟩) (by simp) _).setCell (p := ⟨w.heap.size + 1 + 1, 0, none⟩) (by simp; omega) _).setCell (p := ⟨w.heap.size + 1 + 1, 1, none⟩) (by simp; omega) _

end Go.Proofs.Ytdcpijodoppncaa

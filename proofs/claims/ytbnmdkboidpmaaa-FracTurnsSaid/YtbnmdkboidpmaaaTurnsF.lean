/-
  The walk of the law FracTurns.
-/
import Derived.Test.YtbnmdkboidpmaaaFrac3
import Derived.Test.YtbnmdkboidpmaaaHead
set_option linter.unusedVariables false
set_option linter.unusedSimpArgs false
namespace Wm
theorem turns_facts (p q K : Nat) (hp : p ≤ 1000000) (hq1 : 1 ≤ q) (hq : q ≤ 1000000) (hK1 : K + 1 ≤ (cf p q).length) :
    ((val ((cf p q).take K)).1 ≤ 1000000 ∧ (val ((cf p q).take K)).2 ≤ 1000000 ∧ (val ((cf p q).take (K + 1))).1 ≤ 1000000 ∧ (val ((cf p q).take (K + 1))).2 ≤ 1000000) ∧
    (((val ((cf p q).take K)).1 : Int) * (val ((cf p q).take (K + 1))).2 - (val ((cf p q).take (K + 1))).1 * (val ((cf p q).take K)).2 = if K % 2 = 0 then 1 else -1) ∧
    (if K % 2 = 0 then 0 ≤ ((val ((cf p q).take K)).1 : Int) * q - p * (val ((cf p q).take K)).2 else ((val ((cf p q).take K)).1 : Int) * q - p * (val ((cf p q).take K)).2 ≤ 0) := by
  have hmono : ∀ n, n ≤ (cf p q).length → 1 ≤ n → (val ((cf p q).take n)).1 ≤ 1000000 ∧ (val ((cf p q).take n)).2 ≤ 1000000 := fun n hn h1 => by
    have hP : Pos ((cf p q).drop n) := by
      intro x hx
      rw [cf_pos (by omega)] at hx
      obtain ⟨m, rfl⟩ : ∃ m, n = m + 1 := ⟨n - 1, by omega⟩
      rw [List.drop_succ_cons] at hx
      exact (cf_tail_pos q p (by omega)).2 x (List.mem_of_mem_drop hx)
    have h3 := val_mono ((cf p q).take n) ((cf p q).drop n) hP
    rw [List.take_append_drop] at h3
    have h4 := val_drop p q 0 1000000 hp hq (by omega)
    rw [List.drop_zero] at h4
    omega
  have hK : ((cf p q).take K).length = K := by rw [List.length_take]; omega
  have ht : (cf p q).take (K + 1) = (cf p q).take K ++ [(cf p q)[K]] := List.take_succ_eq_append_getElem (by omega)
  have hd := turn_det ((cf p q).take K) ((cf p q)[K])
  rw [← ht, hK] at hd
  have hs := turn_side ((cf p q).take K) ((cf p q).drop K)
  rw [List.take_append_drop, hK, val_cf q p (by omega)] at hs
  have g0 : 0 < Nat.gcd p q := Nat.gcd_pos_of_pos_right _ (by omega)
  have e1 := Nat.mul_div_cancel' (Nat.gcd_dvd_left p q)
  have e2 := Nat.mul_div_cancel' (Nat.gcd_dvd_right p q)
  refine ⟨⟨?_, ?_, (hmono (K + 1) hK1 (by omega)).1, (hmono (K + 1) hK1 (by omega)).2⟩, hd, ?_⟩
  · rcases Nat.eq_zero_or_pos K with h | h
    · subst h; simp [val]
    · exact (hmono K (by omega) h).1
  · rcases Nat.eq_zero_or_pos K with h | h
    · subst h; simp [val]
    · exact (hmono K (by omega) h).2
  · generalize (val ((cf p q).take K)).1 = aP at *
    generalize (val ((cf p q).take K)).2 = aQ at *
    generalize (val ((cf p q).drop K)).2 = z at *
    generalize p / Nat.gcd p q = a at *
    generalize q / Nat.gcd p q = b at *
    generalize Nat.gcd p q = g at *
    have key : (aP : Int) * (q : Int) - (p : Int) * (aQ : Int) = (g : Int) * ((aP : Int) * (b : Int) - (a : Int) * (aQ : Int)) := by
      rw [← e1, ← e2]
      push_cast
      rw [Int.mul_sub]
      congr 1 <;> ac_rfl
    rw [key]
    simp only at hs
    rw [hs]
    have gz : 0 ≤ (g : Int) * (z : Int) := Int.mul_nonneg (by omega) (by omega)
    by_cases h : K % 2 = 0
    · rw [if_pos h, if_pos h, Int.one_mul]; exact gz
    · rw [if_neg h, if_neg h, show (g : Int) * (-1 * (z : Int)) = -((g : Int) * (z : Int)) by rw [Int.neg_one_mul, Int.mul_neg]]
      omega
end Wm
namespace Go.Proofs.Ytbnmdkboidpmaaa
open Go.RowKit Go.BigFrame

set_option maxRecDepth 100000 in
set_option maxHeartbeats 4000000 in
theorem fturns_any (xp xq k : Int) (w : World) :
    Calls Try.prog 12 #[.agg #[.int .i64 xp, .int .i64 xq], .int .i64 k] w fun e w' => e = .returned (.bool true) ∧ Ext w w' := by
  have T0 := hide fracs_any
  cases hr : rightB xp xq with
  | false =>
    have CO := hide (fun w : World => Of_bad xp xq w hr)
    clear hr
    go_enter Try.func12, Try.ntmps12
    go_wp2_with fail
    refine (unhide T0 _).mono ?_
    rintro e w1 ⟨rfl, E1⟩
    have x0 := E1.keep (a := ⟨w.heap.size, 0, none⟩) (v := .int .i64 xp) (by simp [go_sem])
    have x1 := E1.keep (a := ⟨w.heap.size, 1, none⟩) (v := .int .i64 xq) (by simp [go_sem])
    go_wp2_with fail
    refine (unhide CO _).mono ?_
    rintro e w2 ⟨rfl, E2⟩
    go_wp2
    go_ret
    exact ⟨rfl, (((Ext.refl w).alloc _).trans E1).trans E2⟩
  | true =>
    unfold rightB at hr
    split at hr
    · rename_i hb
      obtain ⟨h1, h2, h3, h4⟩ := hb
      obtain ⟨p, rfl⟩ := Int.eq_ofNat_of_zero_le h3
      obtain ⟨q, rfl⟩ := Int.eq_ofNat_of_zero_le (show 0 ≤ xq by omega)
      have hp : p ≤ 1000000 := by omega
      have hq : q ≤ 1000000 := by omega
      have hq1 : 1 ≤ q := by omega
      have CO := hide (fun w : World => Of_ok p q w hp hq1 hq)
      have CV := hide (fun (w : World) (A : Option Addr) => of_value p q w A hp hq1 hq)
      have HT := hide (fun K h => Wm.turns_facts p q K hp hq1 hq h)
      have hln := Wm.cf_length q p
      have hl1 : 1 ≤ (Wm.cf p q).length := by rw [Wm.cf_pos hq1]; simp
      unfold OfPost at CO
      generalize Wm.cf p q = l at *
      clear h1 h2 h3 h4 hr
      by_cases hl2 : l.length < 2
      · have hl3 : (l.length : Int) < 2 := by omega
        go_enter Try.func12, Try.ntmps12
        go_wp2_with fail
        refine (unhide T0 _).mono ?_
        rintro e w1 ⟨rfl, E1⟩
        have x0 := E1.keep (a := ⟨w.heap.size, 0, none⟩) (v := .int .i64 p) (by simp [go_sem])
        have x1 := E1.keep (a := ⟨w.heap.size, 1, none⟩) (v := .int .i64 q) (by simp [go_sem])
        have F1 := ((Ext.refl w).alloc (.cells #[.int .i64 p, .int .i64 q] 38)).trans E1
        go_wp2_with fail
        refine (unhide CO _).mono ?_
        rintro e w2 ⟨⟨A, rfl, hrow⟩, E2⟩
        clear hrow CV
        go_wp2
        go_ret
        exact ⟨rfl, F1.trans E2⟩
      · have hl3 : ¬ (l.length : Int) < 2 := by omega
        obtain ⟨K', k0, k1, -, cK⟩ := within_ex k ((l.length : Int) - 1) (by omega) (by omega)
        obtain ⟨K0, rfl⟩ := Int.eq_ofNat_of_zero_le k0
        obtain ⟨K, hK⟩ : ∃ K, K = K0 + 1 := ⟨_, rfl⟩
        have hKi : 1 + (K0 : Int) = (K : Int) := by omega
        have hK1 : 1 ≤ K := by omega
        have hKl : K + 1 ≤ l.length := by omega
        obtain ⟨⟨ba, bb, bc, bd⟩, hd, hs⟩ := unhide HT K hKl
        have hwl : IntKind.i64.wrap ((l.length : Int) - 1) = (l.length : Int) - 1 := IntWalk.i64_in _ (by omega)
        have HKI := hide hKi
        have HKN : Hid (1 + K0 = K) := hide (by omega)
        clear hK hKi HT hwl
        go_enter Try.func12, Try.ntmps12
        go_wp2_with fail
        refine (unhide T0 _).mono ?_
        rintro e w1 ⟨rfl, E1⟩
        have x0 := E1.keep (a := ⟨w.heap.size, 0, none⟩) (v := .int .i64 p) (by simp [go_sem])
        have x1 := E1.keep (a := ⟨w.heap.size, 1, none⟩) (v := .int .i64 q) (by simp [go_sem])
        have F1 := ((Ext.refl w).alloc (.cells #[.int .i64 p, .int .i64 q] 38)).trans E1
        go_wp2_with fail
        refine (unhide CO _).mono ?_
        rintro e w2 ⟨⟨A, rfl, hrow⟩, E2⟩
        have x0 := E2.keep x0
        have x1 := E2.keep x1
        have F2 := F1.trans E2
        obtain ⟨bk, o, rfl, hcv⟩ := unhide CV w2 A hrow
        have CA := hide (fun (w' : World) (E : Ext w2 w') => hcv w' E K l.length hK1 (by omega))
        have CB := hide (fun (w' : World) (E : Ext w2 w') => hcv w' E (K + 1) l.length (by omega) hKl)
        generalize Wm.val (l.take K) = a at *
        generalize Wm.val (l.take (K + 1)) = b at *
        obtain ⟨aP, aQ⟩ := a
        obtain ⟨bP, bQ⟩ := b
        simp only at ba bb bc bd hd hs CA CB
        have HD := hide hd
        have HS := hide hs
        clear hcv CV CO hrow F1 E1 hd hs
        go_wp2_with fail
        refine (unhide cK _).mono ?_
        rintro e w3 ⟨rfl, rfl⟩
        have F3 := Ext.refl w3
        go_wp2_with fail
        rw [unhide HKN, unhide HKI]
        clear k0 k1
        refine (unhide CA _ (Ext.refl _)).mono ?_
        rintro e w4 ⟨rfl, E4⟩
        have x0 := E4.keep x0
        have x1 := E4.keep x1
        have E5 := E4.alloc (.cells #[.int .i64 aP, .int .i64 aQ] 38)
        have x0 := ((Ext.refl w4).alloc (.cells #[.int .i64 aP, .int .i64 aQ] 38)).keep x0
        have x1 := ((Ext.refl w4).alloc (.cells #[.int .i64 aP, .int .i64 aQ] 38)).keep x1
        have y0 : (w4.alloc (.cells #[.int .i64 aP, .int .i64 aQ] 38)).cell? ⟨w4.heap.size, 0, none⟩ = some (.int .i64 aP) := by simp [go_sem]
        have y1 : (w4.alloc (.cells #[.int .i64 aP, .int .i64 aQ] 38)).cell? ⟨w4.heap.size, 1, none⟩ = some (.int .i64 aQ) := by simp [go_sem]
        go_wp2_with fail
        refine (unhide CB _ E5).mono ?_
        rintro e w5 ⟨rfl, E6⟩
        have x0 := E6.keep x0
        have x1 := E6.keep x1
        have y0 := E6.keep y0
        have y1 := E6.keep y1
        have FF := F2.trans (E5.trans E6)
        generalize w4.heap.size = Y at *
        have G := (Ext.refl w5).alloc (.cells #[.int .i64 bP, .int .i64 bQ] 38)
        have x0 := G.keep x0
        have x1 := G.keep x1
        have y0 := G.keep y0
        have y1 := G.keep y1
        clear G E4 E5 E6 E2 F2 F3 CA CB
        have pb : ∀ u v : Nat, u ≤ 1000000 → v ≤ 1000000 → 0 ≤ (u : Int) * (v : Int) ∧ (u : Int) * (v : Int) ≤ 1000000000000 := fun u v hu hv => by
          have h1 : u * v ≤ 1000000 * 1000000 := Nat.mul_le_mul hu hv
          have h2 : ((u * v : Nat) : Int) = (u : Int) * (v : Int) := Int.natCast_mul _ _
          rw [← h2]
          omega
        have p1 := pb aP bQ ba bd
        have p2 := pb bP aQ bc bb
        have p3 := pb aP q ba hq
        have p4 := pb p aQ hp bb
        have m1 : IntKind.i64.wrap ((aP : Int) * (bQ : Int)) = (aP : Int) * (bQ : Int) := IntWalk.i64_in _ (by omega)
        have m2 : IntKind.i64.wrap ((bP : Int) * (aQ : Int)) = (bP : Int) * (aQ : Int) := IntWalk.i64_in _ (by omega)
        have m3 : IntKind.i64.wrap ((aP : Int) * (q : Int)) = (aP : Int) * (q : Int) := IntWalk.i64_in _ (by omega)
        have m4 : IntKind.i64.wrap ((p : Int) * (aQ : Int)) = (p : Int) * (aQ : Int) := IntWalk.i64_in _ (by omega)
        have m5 : IntKind.i64.wrap ((aP : Int) * (bQ : Int) - (bP : Int) * (aQ : Int)) = (aP : Int) * (bQ : Int) - (bP : Int) * (aQ : Int) := IntWalk.i64_in _ (by omega)
        have m6 : IntKind.i64.wrap ((aP : Int) * (q : Int) - (p : Int) * (aQ : Int)) = (aP : Int) * (q : Int) - (p : Int) * (aQ : Int) := IntWalk.i64_in _ (by omega)
        clear p1 p2 p3 p4 pb ba bb bc bd
        by_cases hpar : K % 2 = 0
        · have hd := unhide HD
          have hs := unhide HS
          rw [if_pos hpar] at hd hs
          have t1 : ((K : Int) % 2 == 1) = false := by rw [beq_eq_false_iff_ne]; omega
          have t2 : ((K : Int) % 2 == 0) = true := by rw [beq_iff_eq]; omega
          have s1 : decide (0 ≤ (aP : Int) * (q : Int) - (p : Int) * (aQ : Int)) = true := decide_eq_true hs
          have d1 : ((aP : Int) * (bQ : Int) - (bP : Int) * (aQ : Int) == 1) = true := by rw [hd]; rfl
          have HS2 := hide hs
          clear hd hs HD HS hpar
          go_wp2_with fail
          refine (good_made' [0, 0] _ _ _ _ (w5.alloc (.cells #[.int .i64 bP, .int .i64 bQ] 38)) rfl rfl (by decide) (by simp)).mono ?_
          rintro e w6 ⟨rfl, rfl⟩
          go_wp2
          go_ret
          exact ⟨ret_bool (decide_eq_true (by have := unhide HS2; omega)), (FF.alloc _).alloc _⟩
        · have hd := unhide HD
          have hs := unhide HS
          rw [if_neg hpar] at hd hs
          have t1 : ((K : Int) % 2 == 1) = true := by rw [beq_iff_eq]; omega
          have t2 : ((K : Int) % 2 == 0) = false := by rw [beq_eq_false_iff_ne]; omega
          have s1 : decide ((aP : Int) * (q : Int) - (p : Int) * (aQ : Int) ≤ 0) = true := decide_eq_true hs
          have d1 : ((aP : Int) * (bQ : Int) - (bP : Int) * (aQ : Int) == -1) = true := by rw [hd]; rfl
          clear hd hs HD HS hpar
          go_wp2_with fail
          refine (good_made' [0, 0] _ _ _ _ (w5.alloc (.cells #[.int .i64 bP, .int .i64 bQ] 38)) rfl rfl (by decide) (by simp)).mono ?_
          rintro e w6 ⟨rfl, rfl⟩
          go_wp2
          go_ret
          exact ⟨rfl, (FF.alloc _).alloc _⟩
    · cases hr
end Go.Proofs.Ytbnmdkboidpmaaa

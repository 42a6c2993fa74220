/-
  The walk of the law BinomLucas.
-/
import Derived.Test.YtbnmdkboidpmaaaLucasW
set_option linter.unusedVariables false
set_option linter.unusedSimpArgs false
namespace Go.Proofs.Ytbnmdkboidpmaaa
open Go.RowKit Go.BigFrame

set_option maxRecDepth 100000 in
set_option maxHeartbeats 4000000 in
theorem lucas_any (n k p : Int) (w : World) :
    Calls Try.prog 3 #[.int .i64 n, .int .i64 k, .int .i64 p] w fun e w' => e = .returned (.bool true) ∧ Ext w w' := by
  have T0 := hide mod_527
  have T1 := hide chooses_l
  by_cases hg : goodC n k p
  · obtain ⟨h1, h2, h3, h4, h5, h6, h7⟩ := hg
    obtain ⟨N, rfl⟩ := Int.eq_ofNat_of_zero_le h1
    obtain ⟨K, rfl⟩ := Int.eq_ofNat_of_zero_le h3
    obtain ⟨P, rfl⟩ := Int.eq_ofNat_of_zero_le h5
    have hpr : Wm.Prime P := by simpa using h7
    have hN : N ≤ 1000000000 := by omega
    have hK : K ≤ N := by omega
    have hP : P ≤ 1000 := by omega
    have hp1 := hpr.1
    have hdle : K / P ≤ N / P := Nat.div_le_div_right hK
    have hdN : N / P ≤ 1000000000 := Nat.le_trans (Nat.div_le_self _ _) hN
    have hmN := Nat.mod_lt N (show P > 0 by omega)
    have hmK := Nat.mod_lt K (show P > 0 by omega)
    have CM := hide (fun w : World => Mod_ok N K P hN hK hP hpr w)
    have CX := hide (fun w : World => Mod_ok (N / P) (K / P) P hdN hdle hP hpr w)
    have hany := Wm.luc_any (n := N) (k := K) hpr
    have hgt : N % P < K % P → Wm.luc P N K = 0 := fun h => Wm.luc_gt hpr h
    have hl0 := Wm.luc_lt (n := N) (k := K) hpr
    have hl1 := Wm.luc_lt (n := N / P) (k := K / P) hpr
    have CO := hide (fun (h : N ≤ 60) (w : World) => Of_ok N K h hK w)
    have hCm : ((Wm.C N K : Nat) : Int).tmod (P : Int) = ((Wm.luc P N K : Nat) : Int) := by rw [Wm.luc_eq hpr]; rfl
    have hCm2 : ((Wm.C N K : Nat) : Int) % (P : Int) = ((Wm.luc P N K : Nat) : Int) := by rw [Wm.luc_eq hpr]; rfl
    have q1 : (N : Int) / (P : Int) = ((N / P : Nat) : Int) := rfl
    have q2 : (K : Int) / (P : Int) = ((K / P : Nat) : Int) := rfl
    have q3 : (N : Int).tmod (P : Int) = ((N % P : Nat) : Int) := rfl
    have q4 : (K : Int).tmod (P : Int) = ((K % P : Nat) : Int) := rfl
    have q5 : (N : Int) % (P : Int) = ((N % P : Nat) : Int) := rfl
    have q6 : (K : Int) % (P : Int) = ((K % P : Nat) : Int) := rfl
    have q7 : (N : Int).tdiv (P : Int) = ((N / P : Nat) : Int) := rfl
    have q8 : (K : Int).tdiv (P : Int) = ((K / P : Nat) : Int) := rfl
    have P0 : ¬ (P : Int) = 0 := by omega
    have P0B : ((P : Int) == 0) = false := by rw [beq_eq_false_iff_ne]; exact P0
    have P0N : ¬ P = 0 := by omega
    have P2 : ¬ (P : Int) < 2 := by omega
    generalize Wm.C N K = C at *
    by_cases hs : K % P ≤ N % P
    · have CY := hide (fun w : World => Mod_ok (N % P) (K % P) P (by omega) hs hP hpr w)
      have hl2 := Wm.luc_lt (n := N % P) (k := K % P) hpr
      have hm : ((Wm.luc P (N / P) (K / P) : Nat) : Int) * ((Wm.luc P (N % P) (K % P) : Nat) : Int) = ((Wm.luc P (N / P) (K / P) * Wm.luc P (N % P) (K % P) : Nat) : Int) := (Int.natCast_mul _ _).symm
      have hr : (((Wm.luc P (N / P) (K / P) : Nat) : Int) * ((Wm.luc P (N % P) (K % P) : Nat) : Int)).tmod (P : Int) = ((Wm.luc P N K : Nat) : Int) := by rw [hm, hany]; rfl
      have hr2 : (((Wm.luc P (N / P) (K / P) : Nat) : Int) * ((Wm.luc P (N % P) (K % P) : Nat) : Int)) % (P : Int) = ((Wm.luc P N K : Nat) : Int) := by rw [hm, hany]; rfl
      have hb : Wm.luc P (N / P) (K / P) * Wm.luc P (N % P) (K % P) ≤ 1000 * 1000 := Nat.mul_le_mul (by omega) (by omega)
      have hw : IntKind.i64.wrap (((Wm.luc P (N / P) (K / P) : Nat) : Int) * ((Wm.luc P (N % P) (K % P) : Nat) : Int)) = ((Wm.luc P (N / P) (K / P) : Nat) : Int) * ((Wm.luc P (N % P) (K % P) : Nat) : Int) := by rw [hm]; exact IntWalk.i64_in _ (by omega)
      clear h1 h2 h3 h4 h5 h6 h7 hpr hany hgt hm hb
      generalize Wm.luc P N K = M at *
      generalize Wm.luc P (N / P) (K / P) = X at *
      generalize Wm.luc P (N % P) (K % P) = Y at *
      generalize N / P = A at *
      generalize K / P = B at *
      generalize N % P = x at *
      generalize K % P = y at *
      have t1 : decide ((B : Int) ≤ (A : Int)) = true := decide_eq_true (by omega)
      have t2 : decide ((y : Int) ≤ (x : Int)) = true := decide_eq_true (by omega)
      have t3 : decide ((x : Int) < (y : Int)) = false := decide_eq_false (by omega)
      have t4 : decide (B ≤ A) = true := decide_eq_true hdle
      have t5 : decide (y ≤ x) = true := decide_eq_true hs
      have t6 : decide (x < y) = false := decide_eq_false (by omega)
      have mm : ((M : Int) != (M : Int)) = false := by simp
      have mn : (if (B : Int) < (A : Int) then (B : Int) else (A : Int)) = (B : Int) := by split <;> omega
      have mn2 : (if (y : Int) < (x : Int) then (y : Int) else (x : Int)) = (y : Int) := by split <;> omega
      have mn3 : (if B < A then (B : Int) else (A : Int)) = (B : Int) := by split <;> omega
      have mn4 : (if y < x then (y : Int) else (x : Int)) = (y : Int) := by split <;> omega
      have wA : IntKind.i64.wrap (A : Int) = (A : Int) := IntWalk.i64_in _ (by omega)
      have wB : IntKind.i64.wrap (B : Int) = (B : Int) := IntWalk.i64_in _ (by omega)
      go_enter Try.func3, Try.ntmps3
      go_wp2_with fail
      refine (unhide T0 _).mono ?_
      rintro e w1 ⟨rfl, d0, rfl⟩
      go_wp2_with fail
      refine (unhide T1 _).mono ?_
      rintro e w1 ⟨rfl, E1⟩
      go_wp2_with fail
      refine (unhide CM _).mono ?_
      rintro e w2 ⟨rfl, d1, rfl⟩
      have F1 := ((Ext.refl w).drewN d0).trans (E1.trans ((Ext.refl w1).drewN d1))
      generalize w1.drewN d1 = w3 at *
      go_upto_region 7 with fail
      go_quiet ((go_at_call 15; with_reducible exact Calls.quiet_of (unhide CX _)))
      have F2 := F1.drewN nq
      generalize w3.drewN nq = w4 at *
      go_upto_region 8 with fail
      go_quiet ((go_at_call 15; with_reducible exact Calls.quiet_of (unhide CY _)))
      have F3 := F2.drewN nq
      generalize w4.drewN nq = w5 at *
      clear F1 F2 E1 mn mn2 mn3 mn4 CX CY CM T0 T1
      by_cases h60 : N ≤ 60
      · have n60 : ¬ (60 : Int) < (N : Int) := by omega
        have CO' := hide (unhide CO h60)
        clear CO
        go_upto_region 9 with fail
        refine wp_region_head 4 (fun _ _ d _ _ h => by cases d <;> exact h) (by kernel_rfl) (by kernel_rfl) ?_
        show wpList _ _ _ (_ :: _ :: _ :: _ :: []) _ _
        go_wp2_with (go_at_call 17; refine (good_made' [0, 0] _ _ _ _ w5.drew rfl rfl (by decide) (by simp)).mono ?_; rintro e wg ⟨rfl, rfl⟩)
        show wpQuiet _ _ _ _ (_ :: _ :: _ :: _ :: _ :: _ :: _ :: _ :: _ :: _ :: _ :: _ :: _ :: _ :: _ :: _ :: _ :: _ :: _ :: _ :: _ :: _ :: _ :: _ :: _ :: _ :: _ :: _ :: _ :: _ :: _ :: _ :: _ :: _ :: _ :: _ :: _ :: _ :: _ :: _ :: _ :: []) _
        repeat (go_big_quiet_step (fail))
        refine wpQuiet_nil ?_
        intro _ hw'
        obtain ⟨nq, hw''⟩ := hw'
        subst hw''
        go_wp2_with fail
        refine (unhide CO' _).mono ?_
        rintro e w6 ⟨rfl, E6⟩
        go_wp2
        go_ret
        exact ⟨rfl, ((F3.alloc _).drewN _).trans E6⟩
      · have n60 : (60 : Int) < (N : Int) := by omega
        clear CO
        go_upto_region 9 with fail
        refine wp_region_head 4 (fun _ _ d _ _ h => by cases d <;> exact h) (by kernel_rfl) (by kernel_rfl) ?_
        show wpList _ _ _ (_ :: _ :: _ :: _ :: []) _ _
        go_wp2_with (go_at_call 17; refine (good_made' [0, 0] _ _ _ _ w5.drew rfl rfl (by decide) (by simp)).mono ?_; rintro e wg ⟨rfl, rfl⟩)
        show wpQuiet _ _ _ _ (_ :: _ :: _ :: _ :: _ :: _ :: _ :: _ :: _ :: _ :: _ :: _ :: _ :: _ :: _ :: _ :: _ :: _ :: _ :: _ :: _ :: _ :: _ :: _ :: _ :: _ :: _ :: _ :: _ :: _ :: _ :: _ :: _ :: _ :: _ :: _ :: _ :: _ :: _ :: _ :: _ :: []) _
        repeat (go_big_quiet_step (fail))
        refine wpQuiet_nil ?_
        intro _ hw'
        obtain ⟨nq, hw''⟩ := hw'
        subst hw''
        go_wp2
        go_ret
        exact ⟨rfl, (F3.alloc _).drewN _⟩
    · have CY := hide (fun w : World => Mod_ok (N % P) (N % P) P (by omega) (Nat.le_refl _) hP hpr w)
      have hl2 := Wm.luc_lt (n := N % P) (k := N % P) hpr
      have hM0 := hgt (by omega)
      clear h1 h2 h3 h4 h5 h6 h7 hpr hany hgt
      generalize Wm.luc P N K = M at *
      generalize Wm.luc P (N / P) (K / P) = X at *
      generalize Wm.luc P (N % P) (N % P) = Y at *
      generalize N / P = A at *
      generalize K / P = B at *
      generalize N % P = x at *
      generalize K % P = y at *
      have t1 : decide ((B : Int) ≤ (A : Int)) = true := decide_eq_true (by omega)
      have t2 : decide ((y : Int) ≤ (x : Int)) = false := decide_eq_false (by omega)
      have t3 : decide ((x : Int) < (y : Int)) = true := decide_eq_true (by omega)
      have t4 : decide (B ≤ A) = true := decide_eq_true hdle
      have t5 : decide (y ≤ x) = false := decide_eq_false hs
      have t6 : decide (x < y) = true := decide_eq_true (by omega)
      subst hM0
      have mm : (((0 : Nat) : Int) != 0) = false := by simp
      have mn : (if (B : Int) < (A : Int) then (B : Int) else (A : Int)) = (B : Int) := by split <;> omega
      have mn2 : (if (y : Int) < (x : Int) then (y : Int) else (x : Int)) = (x : Int) := by split <;> omega
      have mn3 : (if B < A then (B : Int) else (A : Int)) = (B : Int) := by split <;> omega
      have mn4 : (if y < x then (y : Int) else (x : Int)) = (x : Int) := by split <;> omega
      have wA : IntKind.i64.wrap (A : Int) = (A : Int) := IntWalk.i64_in _ (by omega)
      have wB : IntKind.i64.wrap (B : Int) = (B : Int) := IntWalk.i64_in _ (by omega)
      go_enter Try.func3, Try.ntmps3
      go_wp2_with fail
      refine (unhide T0 _).mono ?_
      rintro e w1 ⟨rfl, d0, rfl⟩
      go_wp2_with fail
      refine (unhide T1 _).mono ?_
      rintro e w1 ⟨rfl, E1⟩
      go_wp2_with fail
      refine (unhide CM _).mono ?_
      rintro e w2 ⟨rfl, d1, rfl⟩
      have F1 := ((Ext.refl w).drewN d0).trans (E1.trans ((Ext.refl w1).drewN d1))
      generalize w1.drewN d1 = w3 at *
      go_upto_region 7 with fail
      go_quiet ((go_at_call 15; with_reducible exact Calls.quiet_of (unhide CX _)))
      have F2 := F1.drewN nq
      generalize w3.drewN nq = w4 at *
      go_upto_region 8 with fail
      go_quiet ((go_at_call 15; with_reducible exact Calls.quiet_of (unhide CY _)))
      have F3 := F2.drewN nq
      generalize w4.drewN nq = w5 at *
      clear F1 F2 E1 mn mn2 mn3 mn4 CX CY CM T0 T1
      by_cases h60 : N ≤ 60
      · have n60 : ¬ (60 : Int) < (N : Int) := by omega
        have CO' := hide (unhide CO h60)
        clear CO
        go_upto_region 9 with fail
        refine wp_region_head 4 (fun _ _ d _ _ h => by cases d <;> exact h) (by kernel_rfl) (by kernel_rfl) ?_
        show wpList _ _ _ (_ :: _ :: _ :: _ :: []) _ _
        go_wp2_with (go_at_call 17; refine (good_made' [0, 0] _ _ _ _ w5.drew rfl rfl (by decide) (by simp)).mono ?_; rintro e wg ⟨rfl, rfl⟩)
        show wpQuiet _ _ _ _ (_ :: _ :: _ :: _ :: _ :: _ :: _ :: _ :: _ :: _ :: _ :: _ :: _ :: _ :: _ :: _ :: _ :: _ :: _ :: _ :: _ :: _ :: _ :: _ :: _ :: _ :: _ :: _ :: _ :: _ :: _ :: _ :: _ :: _ :: _ :: _ :: _ :: _ :: _ :: _ :: _ :: []) _
        repeat (go_big_quiet_step (fail))
        refine wpQuiet_nil ?_
        intro _ hw'
        obtain ⟨nq, hw''⟩ := hw'
        subst hw''
        go_wp2_with fail
        refine (unhide CO' _).mono ?_
        rintro e w6 ⟨rfl, E6⟩
        go_wp2
        go_ret
        exact ⟨rfl, ((F3.alloc _).drewN _).trans E6⟩
      · have n60 : (60 : Int) < (N : Int) := by omega
        clear CO
        go_upto_region 9 with fail
        refine wp_region_head 4 (fun _ _ d _ _ h => by cases d <;> exact h) (by kernel_rfl) (by kernel_rfl) ?_
        show wpList _ _ _ (_ :: _ :: _ :: _ :: []) _ _
        go_wp2_with (go_at_call 17; refine (good_made' [0, 0] _ _ _ _ w5.drew rfl rfl (by decide) (by simp)).mono ?_; rintro e wg ⟨rfl, rfl⟩)
        show wpQuiet _ _ _ _ (_ :: _ :: _ :: _ :: _ :: _ :: _ :: _ :: _ :: _ :: _ :: _ :: _ :: _ :: _ :: _ :: _ :: _ :: _ :: _ :: _ :: _ :: _ :: _ :: _ :: _ :: _ :: _ :: _ :: _ :: _ :: _ :: _ :: _ :: _ :: _ :: _ :: _ :: _ :: _ :: _ :: []) _
        repeat (go_big_quiet_step (fail))
        refine wpQuiet_nil ?_
        intro _ hw'
        obtain ⟨nq, hw''⟩ := hw'
        subst hw''
        go_wp2
        go_ret
        exact ⟨rfl, (F3.alloc _).drewN _⟩
  · have CM := hide (fun w : World => Mod_bad n k p hg w)
    clear hg
    go_enter Try.func3, Try.ntmps3
    go_wp2_with fail
    refine (unhide T0 _).mono ?_
    rintro e w1 ⟨rfl, d0, rfl⟩
    go_wp2_with fail
    refine (unhide T1 _).mono ?_
    rintro e w1 ⟨rfl, E1⟩
    go_wp2_with fail
    refine (unhide CM _).mono ?_
    rintro e w2 ⟨rfl, rfl⟩
    go_wp2
    go_ret
    exact ⟨rfl, ((Ext.refl _).drewN d0).trans E1⟩
end Go.Proofs.Ytbnmdkboidpmaaa

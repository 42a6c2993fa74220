/-
  The walks of the laws SquareTimes, SquareMinus and SquareRecip.
-/
import Derived.Test.YtbnmdkboidpmaaaSquareW
import Derived.Test.YtbnmdkboidpmaaaJacobi0
import Derived.Test.YtbnmdkboidpmaaaEuclid1
namespace Go.Proofs.Ytbnmdkboidpmaaa
open Go.RowKit Go.BigFrame

theorem jac_eq (a : Int) : ∀ l, jac a l = Wm.jacP a l
  | [] => rfl
  | x :: l => by
    simp only [jac, Wm.jacP]
    rw [jac_eq a l]; rfl

theorem odd_any (n most : Int) (w : World) (h2 : 2 ≤ most) (h6 : most ≤ 1000000000) :
    Calls Try.prog 25 #[.int .i64 n, .int .i64 most] w fun e w' => e = .returned (.int .i64 (1 + 2 * (n % (most / 2)))) ∧ w' = w := by
  have hd : most.tdiv 2 = most / 2 := Int.tdiv_eq_ediv_of_nonneg (by omega)
  have h1 : 1 ≤ most / 2 := by omega
  have h3 : most / 2 ≤ 1000000000 := by omega
  have hb := Wm.emod_bound n (show 0 < most / 2 by omega)
  have C := hide (fun w : World => within_any n (most / 2) w h1 (by omega))
  generalize most / 2 = H at *
  generalize n % H = r at *
  go_enter Try.func25, Try.ntmps25
  go_wp2_with fail
  refine (unhide C _).mono ?_
  rintro e w' ⟨rfl, rfl⟩
  go_wp2
  go_ret
  exact ⟨rfl, rfl⟩
theorem odd_ex (n : Int) (H : Nat) (h1 : 1 ≤ H) (h6 : H ≤ 500000) : ∃ m : Nat, 1 ≤ m ∧ m ≤ 2 * H - 1 ∧ m % 2 = 1 ∧
    Hid (∀ w : World, Calls Try.prog 25 #[.int .i64 n, .int .i64 ((2 * H + 1 : Nat) : Int)] w fun e w' => e = .returned (.int .i64 (m : Int)) ∧ w' = w) := by
  have hb := Wm.emod_bound n (show (0 : Int) < (H : Int) by omega)
  obtain ⟨r, hr⟩ : ∃ r : Nat, n % (H : Int) = (r : Int) := ⟨(n % (H : Int)).toNat, by omega⟩
  refine ⟨1 + 2 * r, by omega, by omega, by omega, hide fun w => ?_⟩
  have := odd_any n ((2 * H + 1 : Nat) : Int) w (by omega) (by omega)
  rw [show ((2 * H + 1 : Nat) : Int) / 2 = (H : Int) by omega, hr] at this
  rw [show ((1 + 2 * r : Nat) : Int) = 1 + 2 * (r : Int) by omega]
  exact this

set_option maxRecDepth 100000 in
set_option maxHeartbeats 2000000 in
theorem stimes_any (a b m n : Int) (w : World) :
    Calls Try.prog 7 #[.int .i64 a, .int .i64 b, .int .i64 m, .int .i64 n] w fun e w' => e = .returned (.bool true) ∧ Ext w w' := by
  obtain ⟨A, a0, a1, cA⟩ := small_ex a
  obtain ⟨B, b0, b1, cB⟩ := small_ex b
  obtain ⟨M, m1, m2, mo, cM⟩ := odd_ex m 499 (by omega) (by omega)
  obtain ⟨N, n1, n2, no, cN⟩ := odd_ex n 499 (by omega) (by omega)
  have hmn : ((M * N : Nat) : Int) = (M : Int) * (N : Int) := Int.natCast_mul M N
  have hmn1 : 1 ≤ M * N := Nat.mul_pos m1 n1
  have hmn2 : M * N ≤ 997 * 997 := Nat.mul_le_mul (by omega) (by omega)
  have hmno : M * N % 2 = 1 := by rw [Nat.mul_mod, mo, no]
  have habn := Wm.mul_bound A B 1000 1000 (by omega) (by omega)
  have hab : -1000000 ≤ A * B ∧ A * B ≤ 1000000 := by omega
  have C1 := hide (fun w : World => Symbol_ok A M w m1 (by omega) mo)
  have C2 := hide (fun w : World => Symbol_ok B M w m1 (by omega) mo)
  have C3 := hide (fun w : World => Symbol_ok (A * B) M w m1 (by omega) mo)
  have C4 := hide (fun w : World => Symbol_ok A N w n1 (by omega) no)
  have c5 := fun w : World => Symbol_ok A (M * N) w hmn1 (by omega) hmno
  rw [hmn] at c5
  have C5 := hide c5
  have hmul := hide (fun x y z h1 h2 h3 => Wm.jacP_times A (m := M) (n := N) (x := x) (y := y) (z := z) h1 h2 h3)
  have hmul2 := hide (fun x h => Wm.jacP_mul (n := M) (x := x) h mo A B)
  have hp0 : 0 ≤ (M : Int) * (N : Int) := by omega
  have hp1 : (M : Int) * (N : Int) ≤ 1000000 := by omega
  have ab1 := hab.1
  have ab2 := hab.2
  have HMN := hide hmn
  clear c5 habn hab hmn1 hmn2 hmno mo no hmn m1 n1 m2 n2
  go_enter Try.func7, Try.ntmps7
  go_wp2_with fail
  refine (squares_any _).mono ?_
  rintro e w1 ⟨rfl, E1⟩
  go_wp2_with fail
  refine (unhide cA _).mono ?_
  rintro e w' ⟨rfl, rfl⟩
  go_wp2_with fail
  refine (unhide cB _).mono ?_
  rintro e w' ⟨rfl, rfl⟩
  go_wp2_with fail
  refine (unhide cM _).mono ?_
  rintro e w' ⟨rfl, rfl⟩
  go_wp2_with fail
  refine (unhide cN _).mono ?_
  rintro e w' ⟨rfl, rfl⟩
  go_wp2_with fail
  refine (unhide C1 _).mono ?_
  rintro e w2 ⟨⟨l1, h1, rfl⟩, E2⟩
  have F2 := E1.trans E2
  clear E1 E2
  go_wp2_with fail
  refine (unhide C2 _).mono ?_
  rintro e w3 ⟨⟨l2, h2, rfl⟩, E2⟩
  obtain rfl := Wm.fac_unique h1 h2
  have F3 := F2.trans E2
  clear F2 E2
  go_wp2_with fail
  refine (unhide C3 _).mono ?_
  rintro e w4 ⟨⟨l3, h3, rfl⟩, E2⟩
  obtain rfl := Wm.fac_unique h1 h3
  have F4 := F3.trans E2
  clear F3 E2
  go_wp2_with fail
  refine (unhide C4 _).mono ?_
  rintro e w5 ⟨⟨l4, h4, rfl⟩, E2⟩
  have F5 := F4.trans E2
  clear F4 E2
  go_wp2_with fail
  refine (unhide C5 _).mono ?_
  rintro e w6 ⟨⟨l5, h5, rfl⟩, E2⟩
  have F6 := F5.trans E2
  clear F5 E2
  have e1 : jac (A * B) l1 = jac A l1 * jac B l1 := by
    rw [jac_eq, jac_eq, jac_eq]
    exact unhide hmul2 _ h1
  have e2 : jac A l5 = jac A l1 * jac A l4 := by
    rw [jac_eq, jac_eq, jac_eq]
    exact unhide hmul _ _ _ h1 h4 h5
  have j1 := jac_bound A l1
  have j2 := jac_bound B l1
  have j3 := jac_bound A l4
  have k1 := one_mul_bound j1 j2
  have k2 := one_mul_bound j1 j3
  rw [e1, e2]
  have wx : IntKind.i64.wrap (jac A l1 * jac B l1) = jac A l1 * jac B l1 := IntWalk.i64_in _ (by omega)
  have wy : IntKind.i64.wrap (jac A l1 * jac A l4) = jac A l1 * jac A l4 := IntWalk.i64_in _ (by omega)
  clear h1 h2 h3 h4 h5 e1 e2 j1 j2 j3 C1 C2 C3 C4 C5 hmul hmul2 cA cB cM cN
  generalize jac A l1 = x at *
  generalize jac B l1 = y at *
  generalize jac A l4 = v at *
  have k11 := k1.1
  have k12 := k1.2
  have k21 := k2.1
  have k22 := k2.2
  clear k1 k2
  go_wp2_with fail
  refine (good_made [0, 0, 0, 0, 0] _ _ _ _ rfl rfl (by decide)).mono ?_
  rintro e w7 ⟨rfl, rfl⟩
  go_wp2
  go_ret
  exact ⟨ret_bool (by first | rfl | simp), (by repeat (first | exact F6 | refine Ext.alloc ?_ _ | refine Ext.drew ?_ | refine Ext.drewN ?_ _ | (refine Ext.trans ?_ (plus_ext _ _)) | (refine Ext.setCell ?_ (by have := Ext.size F6; simp; omega) _)))⟩

set_option maxRecDepth 100000 in
set_option maxHeartbeats 2000000 in
theorem sminus_any (n : Int) (w : World) :
    Calls Try.prog 8 #[.int .i64 n] w fun e w' => e = .returned (.bool true) ∧ Ext w w' := by
  obtain ⟨N, n1, n2, no, cN⟩ := odd_ex n 499999 (by omega) (by omega)
  have C1 := hide (fun w : World => Symbol_ok (-1) N w n1 (by omega) no)
  have C2 := hide (fun w : World => Symbol_ok 2 N w n1 (by omega) no)
  have HO := hide no
  have m4 : (N : Int).tmod 4 = ((N % 4 : Nat) : Int) := rfl
  have m8 : (N : Int).tmod 8 = ((N % 8 : Nat) : Int) := rfl
  have N4 := hide (rfl : N % 4 = N % 4)
  have h8 : N % 8 = 1 ∨ N % 8 = 3 ∨ N % 8 = 5 ∨ N % 8 = 7 := by omega
  have nl : (N : Int) ≤ 999997 := by omega
  clear no n1 n2
  rcases h8 with h8 | h8 | h8 | h8
  all_goals
    have h4 : N % 8 % 4 = N % 4 := by omega
    rw [h8] at h4
    rw [← h4] at m4
    rw [h8] at m8
    have g1 : Hid (∀ l, Wm.IsFac N l → jac (-1) l = if N % 4 = 3 then -1 else 1) := hide fun l h => by rw [jac_eq]; exact Wm.jacP_neg h (unhide HO)
    have g2 : Hid (∀ l, Wm.IsFac N l → jac 2 l = if N % 8 = 3 ∨ N % 8 = 5 then -1 else 1) := hide fun l h => by rw [jac_eq]; exact Wm.jacP_two h (unhide HO)
    rw [← h4] at g1
    rw [h8] at g2
    have m4' : (N : Int) % 4 = ((N % 8 % 4 : Nat) : Int) := by omega
    have m8' : (N : Int) % 8 = ((N % 8 : Nat) : Int) := by omega
    rw [h8] at m4' m8'
    clear h4 h8
    go_enter Try.func8, Try.ntmps8
    go_wp2_with fail
    refine (squares_any _).mono ?_
    rintro e w1 ⟨rfl, E1⟩
    go_wp2_with fail
    refine (unhide cN _).mono ?_
    rintro e w' ⟨rfl, rfl⟩
    go_wp2_with fail
    refine (unhide C1 _).mono ?_
    rintro e w2 ⟨⟨l1, h1, rfl⟩, E2⟩
    go_wp2_with fail
    refine (unhide C2 _).mono ?_
    rintro e w3 ⟨⟨l2, h2, rfl⟩, E3⟩
    rw [unhide g1 l1 h1, unhide g2 l2 h2]
    have F := (E1.trans E2).trans E3
    clear E1 E2 E3 g1 g2 h1 h2 C1 C2
    go_wp2_with (first | (refine (good_made [0, 0] _ _ _ _ rfl rfl (by decide)).mono ?_; rintro e w4 ⟨rfl, rfl⟩) | fail)
    go_ret
    exact ⟨ret_bool (by first | rfl | decide | simp), (by repeat (first | exact F | refine Ext.alloc ?_ _ | refine Ext.drew ?_ | refine Ext.drewN ?_ _ | (refine Ext.trans ?_ (plus_ext _ _)) | (refine Ext.setCell ?_ (by have := Ext.size F; simp; omega) _)))⟩

set_option maxRecDepth 100000 in
set_option maxHeartbeats 2000000 in
theorem srecip_any (m n : Int) (w : World) :
    Calls Try.prog 6 #[.int .i64 m, .int .i64 n] w fun e w' => e = .returned (.bool true) ∧ Ext w w' := by
  obtain ⟨M, m1, m2, mo, cM⟩ := odd_ex m 499999 (by omega) (by omega)
  obtain ⟨N, n1, n2, no, cN⟩ := odd_ex n 499999 (by omega) (by omega)
  have C1 := hide (fun w : World => Symbol_ok M N w n1 (by omega) no)
  have C2 := hide (fun w : World => Symbol_ok N M w m1 (by omega) mo)
  have C3 := hide (fun w : World => Gcd_ok M N w (by omega) (by omega))
  have hrec := hide (fun x y h1 h2 hg => Wm.jacP_recip (m := M) (n := N) (x := x) (y := y) h1 h2 mo no hg)
  have hc1 := hide (fun y h hg => Wm.jacP_common (m := M) (n := N) (y := y) h m1 no hg)
  have hc2 := hide (fun y h hg => Wm.jacP_common (m := N) (n := M) (y := y) h n1 mo hg)
  have hgi : Int.gcd (M : Int) (N : Int) = Nat.gcd M N := rfl
  rw [hgi] at C3
  have m4 : (M : Int).tmod 4 = ((M % 4 : Nat) : Int) := rfl
  have n4 : (N : Int).tmod 4 = ((N % 4 : Nat) : Int) := rfl
  have m4' : (M : Int) % 4 = ((M % 4 : Nat) : Int) := by omega
  have n4' : (N : Int) % 4 = ((N % 4 : Nat) : Int) := by omega
  have am : M % 4 = 1 ∨ M % 4 = 3 := by omega
  have an : N % 4 = 1 ∨ N % 4 = 3 := by omega
  have ml : (M : Int) ≤ 999997 := by omega
  have nl : (N : Int) ≤ 999997 := by omega
  clear m2 n2 mo no hgi
  by_cases hg : Nat.gcd M N = 1
  · rw [hg] at C3
    rcases am with am | am <;> rcases an with an | an
    all_goals
      rw [am] at m4 m4'
      rw [an] at n4 n4'
      have HS := hide (show Wm.sgn4 M N = Wm.sgn4 (M % 4) (N % 4) by unfold Wm.sgn4; rw [Nat.mod_mod, Nat.mod_mod])
      rw [am, an] at HS
      clear am an
      go_enter Try.func6, Try.ntmps6
      go_wp2_with fail
      refine (squares_any _).mono ?_
      rintro e w1 ⟨rfl, E1⟩
      go_wp2_with fail
      refine (unhide cM _).mono ?_
      rintro e w' ⟨rfl, rfl⟩
      go_wp2_with fail
      refine (unhide cN _).mono ?_
      rintro e w' ⟨rfl, rfl⟩
      go_wp2_with fail
      refine (unhide C1 _).mono ?_
      rintro e w2 ⟨⟨l1, h1, rfl⟩, E2⟩
      go_wp2_with fail
      refine (unhide C2 _).mono ?_
      rintro e w3 ⟨⟨l2, h2, rfl⟩, E3⟩
      have hh := unhide hrec _ _ h2 h1 hg
      rw [← jac_eq, ← jac_eq, unhide HS] at hh
      have j1 := jac_bound M l1
      have j2 := jac_bound N l2
      have F := (E1.trans E2).trans E3
      clear E1 E2 E3 h1 h2 C1 C2 hrec hc1 hc2 HS
      generalize jac (M : Int) l1 = x at *
      generalize jac (N : Int) l2 = y at *
      have ax : x = -1 ∨ x = 0 ∨ x = 1 := by omega
      have ay : y = -1 ∨ y = 0 ∨ y = 1 := by omega
      clear j1 j2
      go_wp2_with fail
      refine (unhide C3 _).mono ?_
      rintro e w4 ⟨rfl, n4, rfl⟩
      rcases ax with rfl | rfl | rfl <;> rcases ay with rfl | rfl | rfl <;> first | (exfalso; revert hh; decide) | skip
      all_goals
        clear hh
        go_wp2_with (first | (refine (good_made [0, 0, 0] _ _ _ _ rfl rfl (by decide)).mono ?_; rintro e w4 ⟨rfl, rfl⟩) | fail)
        go_ret
        exact ⟨ret_bool (by first | rfl | decide | simp), (by repeat (first | exact F | refine Ext.alloc ?_ _ | refine Ext.drew ?_ | refine Ext.drewN ?_ _ | (refine Ext.trans ?_ (plus_ext _ _)) | (refine Ext.setCell ?_ (by have := Ext.size F; simp; omega) _)))⟩
  · have hb : ((((Nat.gcd M N : Nat) : Int)) == 1) = false := by rw [beq_eq_false_iff_ne]; omega
    have hg' : ¬ ((Nat.gcd M N : Nat) : Int) = 1 := by omega
    have hgb : ((Nat.gcd M N : Nat) : Int) ≤ 999997 := by have := Nat.gcd_le_left (m := M) N (by omega); omega
    have HG := hide hg
    clear hg am an
    go_enter Try.func6, Try.ntmps6
    go_wp2_with fail
    refine (squares_any _).mono ?_
    rintro e w1 ⟨rfl, E1⟩
    go_wp2_with fail
    refine (unhide cM _).mono ?_
    rintro e w' ⟨rfl, rfl⟩
    go_wp2_with fail
    refine (unhide cN _).mono ?_
    rintro e w' ⟨rfl, rfl⟩
    go_wp2_with fail
    refine (unhide C1 _).mono ?_
    rintro e w2 ⟨⟨l1, h1, rfl⟩, E2⟩
    go_wp2_with fail
    refine (unhide C2 _).mono ?_
    rintro e w3 ⟨⟨l2, h2, rfl⟩, E3⟩
    have e1 : jac M l1 = 0 := by rw [jac_eq]; exact unhide hc1 _ h1 (unhide HG)
    have e2 : jac N l2 = 0 := by rw [jac_eq]; exact unhide hc2 _ h2 (by rw [Nat.gcd_comm]; exact unhide HG)
    rw [e1, e2]
    have F := (E1.trans E2).trans E3
    clear E1 E2 E3 h1 h2 C1 C2 hrec hc1 hc2 e1 e2
    go_wp2_with fail
    refine (unhide C3 _).mono ?_
    rintro e w4 ⟨rfl, n4, rfl⟩
    generalize ((Nat.gcd M N : Nat) : Int) = g at *
    go_wp2_with fail
    refine (good_made [0, 0, 0] _ _ _ _ rfl rfl (by decide)).mono ?_
    rintro e w4 ⟨rfl, rfl⟩
    go_wp2_with fail
    refine (good_made' [0, 0, 0] _ _ _ _ _ rfl rfl (by decide) (by simp)).mono ?_
    rintro e w4 ⟨rfl, rfl⟩
    go_wp2
    go_ret
    exact ⟨ret_bool (by first | rfl | decide | simp), (by repeat (first | exact F | refine Ext.alloc ?_ _ | refine Ext.drew ?_ | refine Ext.drewN ?_ _ | (refine Ext.trans ?_ (plus_ext _ _)) | (refine Ext.setCell ?_ (by have := Ext.size F; simp; omega) _)))⟩

end Go.Proofs.Ytbnmdkboidpmaaa

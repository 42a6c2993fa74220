/-
  The walks of the laws BinomPascal and BinomVander.
-/
import Derived.Test.YticphnjljnhlcaaBinom1
import Derived.Test.YticphnjljnhlcaaArith1
namespace Go.Proofs.Yticphnjljnhlcaa
open Go.RowKit Go.BigFrame

def Cz (n : Nat) (k : Int) : Nat := if k < 0 then 0 else Wm.C n k.toNat

set_option maxRecDepth 100000 in
set_option maxHeartbeats 1000000 in
theorem Of_out (n : Nat) (k : Int) (hn : n ≤ 60) (hk : k < 0 ∨ (n : Int) < k) (w : World) :
    Calls Try.prog 41 #[.int .i64 n, .int .i64 k] w fun e w' => e = .returned (.tuple #[.int .i64 0, .int .i64 0]) ∧ Ext w w' := by
  by_cases h : k < 0
  · go_enter Try.func41, Try.ntmps41
    go_wp2
    go_ret2
    exact ⟨rfl, Ext.refl _⟩
  · have h' : (n : Int) < k := by omega
    clear hk
    go_enter Try.func41, Try.ntmps41
    go_wp2
    go_ret2
    exact ⟨rfl, Ext.refl _⟩
theorem Of_any (n : Nat) (k : Int) (hn : n ≤ 60) (w : World) :
    Calls Try.prog 41 #[.int .i64 n, .int .i64 k] w fun e w' => e = .returned (.tuple #[.int .i64 (Cz n k), .int .i64 0]) ∧ Ext w w' := by
  by_cases h : k < 0 ∨ (n : Int) < k
  · refine (Of_out n k hn h w).mono fun e w' ⟨he, hw⟩ => ⟨?_, hw⟩
    have : Cz n k = 0 := by
      unfold Cz
      split
      · rfl
      · exact Wm.C_gt _ _ (by omega)
    rw [he, this]; rfl
  · obtain ⟨m, rfl⟩ := Int.eq_ofNat_of_zero_le (show 0 ≤ k by omega)
    refine (Of_ok n m hn (by omega) w).mono fun e w' ⟨he, hw⟩ => ⟨?_, hw⟩
    have : Cz n m = Wm.C n m := by
      unfold Cz
      rw [if_neg (by omega)]; simp
    rw [he, this]

theorem chooses_any (w : World) : Calls Try.prog 40 #[] w fun e w' => e = .returned (.bool true) ∧ Ext w w' := by
  have c1 := fun w : World => Of_ok 5 2 (by omega) (by omega) w
  rw [show Wm.C 5 2 = 10 by decide] at c1
  have C1 := hide c1
  clear c1
  go_enter Try.func40, Try.ntmps40
  go_wp2_with fail
  refine (unhide C1 _).mono ?_
  rintro e w' ⟨rfl, E⟩
  go_wp2
  go_ret
  exact ⟨rfl, E⟩

set_option maxRecDepth 100000 in
set_option maxHeartbeats 1000000 in
theorem pascal_any (n k : Int) (w : World) :
    Calls Try.prog 13 #[.int .i64 n, .int .i64 k] w fun e w' => e = .returned (.bool true) ∧ Ext w w' := by
  obtain ⟨N', n0, n1, -, cN⟩ := within_ex n 60 (by omega) (by omega)
  obtain ⟨M, rfl⟩ := Int.eq_ofNat_of_zero_le n0
  obtain ⟨N, hN⟩ : ∃ N : Nat, N = M + 1 := ⟨_, rfl⟩
  have hNM : (1 : Int) + (M : Int) = (N : Int) := by omega
  have hMN : (M : Int) = (N : Int) - 1 := by omega
  have hN1 : 1 ≤ N := by omega
  have hN2 : N ≤ 60 := by omega
  obtain ⟨K', k0, k1, -, cK⟩ := within_ex k ((N : Int) + 1) (by omega) (by omega)
  obtain ⟨K, rfl⟩ := Int.eq_ofNat_of_zero_le k0
  have c1 := fun w : World => Of_ok N K (by omega) (by omega) w
  have c2 := fun w : World => Of_any M ((K : Int) - 1) (by omega) w
  have c3 := fun w : World => Of_any M K (by omega) w
  have c4 := fun w : World => Of_ok N (N - K) (by omega) (by omega) w
  rw [Wm.C_symm N K (by omega)] at c4
  have e4 : ((N - K : Nat) : Int) = (N : Int) - (K : Int) := by omega
  have c5 := fun (i : Nat) (hi : i ≤ N) (w : World) => Of_ok N i (by omega) hi w
  rw [e4] at c4
  have hab : Wm.C N K = Cz M ((K : Int) - 1) + Cz M K := by
    subst hN
    unfold Cz
    cases K with
    | zero => simp [Wm.C_zero]
    | succ K =>
      rw [if_neg (by omega), if_neg (by omega), show ((K + 1 : Nat) : Int) - 1 = (K : Int) by omega, Int.toNat_natCast, Int.toNat_natCast, Wm.C_succ]
  have hb1 := Wm.C_le N K
  have hb2 : 2 ^ N ≤ 2 ^ 60 := Nat.pow_le_pow_right (by omega) (by omega)
  have hsum := Wm.row_sum N
  have hmono := fun m (h : m ≤ N + 1) => Wm.sumTo_mono (f := Wm.C N) h
  rw [hsum] at hmono
  rw [hab] at c1 c4 hb1
  have hb3 : Cz M ((K : Int) - 1) + Cz M K ≤ 1152921504606846976 := by omega
  clear hab hb1
  generalize Cz M ((K : Int) - 1) = b at *
  generalize Cz M K = c at *
  rw [hMN] at c2 c3
  have hbc : ((b + c : Nat) : Int) = (b : Int) + (c : Int) := by omega
  rw [hbc] at c1 c4
  have hb4 : (b : Int) + (c : Int) ≤ 1152921504606846976 := by omega
  have C1 := hide c1
  have C2 := hide c2
  have C3 := hide c3
  have C4 := hide c4
  have C5 := hide c5
  have HM := hide hmono
  have HS := hide hsum
  have HB := hide hb2
  have HNM := hide hNM
  clear c1 c2 c3 c4 c5 hmono hsum e4 hb2 hbc hb3 hN hMN hNM
  go_enter Try.func13, Try.ntmps13
  go_wp2_with fail
  refine (chooses_any _).mono ?_
  rintro e w' ⟨rfl, E0⟩
  go_wp2_with fail
  refine (unhide cN _).mono ?_
  rintro e w' ⟨rfl, rfl⟩
  go_wp2_with fail
  rw [unhide HNM]
  clear n0 n1
  go_wp2_with fail
  refine (unhide cK _).mono ?_
  rintro e w' ⟨rfl, rfl⟩
  go_wp2_with fail
  refine (unhide C1 _).mono ?_
  rintro e w' ⟨rfl, E1⟩
  go_wp2_with fail
  refine (unhide C2 _).mono ?_
  rintro e w' ⟨rfl, E2⟩
  go_wp2_with fail
  refine (unhide C3 _).mono ?_
  rintro e w' ⟨rfl, E3⟩
  go_wp2_with fail
  refine (unhide C4 _).mono ?_
  rintro e w' ⟨rfl, E4⟩
  go_wp2_with fail
  have E5 := (((E0.trans E1).trans E2).trans E3).trans E4
  clear E0 E1 E2 E3 E4
  go_loopw [13, 57] (fun v i wr => ∃ m : Nat, m ≤ N + 1 ∧ i = .int .i64 m ∧ v = .int .i64 (Wm.sumTo (Wm.C N) m) ∧ Ext w wr) (fun _ i _ => 100 - (intOf i).toNat)
  case atStart => exact ⟨0, by omega, rfl, rfl, E5⟩
  case round =>
    obtain ⟨m, hm, rfl, rfl, hext⟩ := hrel
    have hb := unhide HB
    by_cases hlt : m < N + 1
    · have h1 := unhide HM (m + 1) (by omega)
      have hst : Wm.sumTo (Wm.C N) (m + 1) = Wm.sumTo (Wm.C N) m + Wm.C N m := rfl
      have HST := hide hst
      have h2 : (Wm.sumTo (Wm.C N) m : Int) + (Wm.C N m : Int) ≤ 1152921504606846976 := by omega
      clear hst h1 hb
      go_wp2_with fail
      refine (unhide C5 m (by omega) _).mono ?_
      rintro e w' ⟨rfl, E6⟩
      go_wp2
      go_roundw
      case rel => exact ⟨m + 1, by omega, by go_num, by rw [unhide HST]; go_num, hext.trans E6⟩
      case measure => simp [intOf]; omega
    · obtain rfl : m = N + 1 := by omega
      rw [unhide HS]
      have hp : ((2 ^ N : Nat) : Int) = (2 : Int) ^ N := by push_cast; rfl
      have hw : wrap64 ((2 : Int) ^ N) = (2 : Int) ^ N := by
        rw [← hp]
        exact IntWalk.wrap64_in _ (by generalize 2 ^ N = P at *; omega)
      have HW := hide hw
      clear hb hw
      go_wp2_with fail
      refine (good_made [0, 0, 0, 0] _ _ _ _ rfl rfl (by decide)).mono ?_
      rintro e w' ⟨rfl, rfl⟩
      go_wp2
      go_ret
      exact ⟨ret_bool (by rw [unhide HW]; simp), hext.alloc _⟩

set_option maxRecDepth 100000 in
set_option maxHeartbeats 1000000 in
theorem vander_any (m n k : Int) (w : World) :
    Calls Try.prog 14 #[.int .i64 m, .int .i64 n, .int .i64 k] w fun e w' => e = .returned (.bool true) ∧ Ext w w' := by
  obtain ⟨M', m0, m1, -, cM⟩ := within_ex m 31 (by omega) (by omega)
  obtain ⟨M, rfl⟩ := Int.eq_ofNat_of_zero_le m0
  obtain ⟨N', n0, n1, -, cN⟩ := within_ex n 31 (by omega) (by omega)
  obtain ⟨N, rfl⟩ := Int.eq_ofNat_of_zero_le n0
  obtain ⟨K', k0, k1, -, cK⟩ := within_ex k 61 (by omega) (by omega)
  obtain ⟨K, rfl⟩ := Int.eq_ofNat_of_zero_le k0
  have e1 : ((M + N : Nat) : Int) = (M : Int) + (N : Int) := by omega
  have c1 := fun w : World => Of_any (M + N) K (by omega) w
  rw [show Cz (M + N) K = Wm.C (M + N) K by unfold Cz; rw [if_neg (by omega)]; simp, e1] at c1
  have c2 := fun (i : Nat) (w : World) => Of_any M i (by omega) w
  have e2 : ∀ i : Nat, Cz M i = Wm.C M i := fun i => by unfold Cz; rw [if_neg (by omega)]; simp
  simp only [e2] at c2
  have c3 := fun (i : Nat) (hi : i ≤ K) (w : World) => Of_any N ((K : Int) - (i : Int)) (by omega) w
  have e3 : ∀ i : Nat, i ≤ K → Cz N ((K : Int) - (i : Int)) = Wm.C N (K - i) := fun i hi => by
    unfold Cz
    rw [if_neg (by omega), show ((K : Int) - (i : Int)).toNat = K - i by omega]
  have hv := Wm.vander M N K
  have hmono := fun j (h : j ≤ K + 1) => Wm.sumTo_mono (f := fun i => Wm.C M i * Wm.C N (K - i)) h
  rw [hv] at hmono
  have hb1 := Wm.C_le (M + N) K
  have hb2 : 2 ^ (M + N) ≤ 2 ^ 60 := Nat.pow_le_pow_right (by omega) (by omega)
  have hb3 : Wm.C (M + N) K ≤ 1152921504606846976 := by omega
  have C1 := hide c1
  have C2 := hide c2
  have C3 := hide c3
  have E3 := hide e3
  have HV := hide hv
  have HM := hide hmono
  have HB := hide hb3
  clear c1 c2 c3 e1 e2 e3 hv hmono hb1 hb2 hb3
  go_enter Try.func14, Try.ntmps14
  go_wp2_with fail
  refine (chooses_any _).mono ?_
  rintro e w' ⟨rfl, E0⟩
  go_wp2_with fail
  refine (unhide cM _).mono ?_
  rintro e w' ⟨rfl, rfl⟩
  go_wp2_with fail
  refine (unhide cN _).mono ?_
  rintro e w' ⟨rfl, rfl⟩
  go_wp2_with fail
  refine (unhide cK _).mono ?_
  rintro e w' ⟨rfl, rfl⟩
  go_wp2_with fail
  refine (unhide C1 _).mono ?_
  rintro e w' ⟨rfl, E1⟩
  go_wp2_with fail
  have E5 := E0.trans E1
  clear E0 E1
  go_loopw [9, 33] (fun v i wr => ∃ j : Nat, j ≤ K + 1 ∧ i = .int .i64 j ∧ v = .int .i64 (Wm.sumTo (fun i => Wm.C M i * Wm.C N (K - i)) j) ∧ Ext w wr) (fun _ i _ => 100 - (intOf i).toNat)
  case atStart => exact ⟨0, by omega, rfl, rfl, E5⟩
  case round =>
    obtain ⟨j, hj, rfl, rfl, hext⟩ := hrel
    have hb := unhide HB
    by_cases hlt : j < K + 1
    · have h1 := unhide HM (j + 1) (by omega)
      have hst : Wm.sumTo (fun i => Wm.C M i * Wm.C N (K - i)) (j + 1) = Wm.sumTo (fun i => Wm.C M i * Wm.C N (K - i)) j + Wm.C M j * Wm.C N (K - j) := rfl
      have hmul : ((Wm.C M j * Wm.C N (K - j) : Nat) : Int) = (Wm.C M j : Int) * (Wm.C N (K - j) : Int) := Int.natCast_mul _ _
      have c3 := fun w : World => unhide C3 j (by omega) w
      rw [unhide E3 j (by omega)] at c3
      have C3' := hide c3
      have C2' := hide (fun w : World => unhide C2 j w)
      have b1 : 0 ≤ (Wm.C M j : Int) * (Wm.C N (K - j) : Int) := by omega
      have b2 : (Wm.C M j : Int) * (Wm.C N (K - j) : Int) ≤ 1152921504606846976 := by omega
      have b3 : (Wm.sumTo (fun i => Wm.C M i * Wm.C N (K - i)) j : Int) + (Wm.C M j : Int) * (Wm.C N (K - j) : Int) ≤ 1152921504606846976 := by omega
      have hnew : ((Wm.sumTo (fun i => Wm.C M i * Wm.C N (K - i)) (j + 1) : Nat) : Int) = (Wm.sumTo (fun i => Wm.C M i * Wm.C N (K - i)) j : Int) + (Wm.C M j : Int) * (Wm.C N (K - j) : Int) := by omega
      have HN := hide hnew
      clear h1 hst hmul c3 hb hnew
      generalize Wm.C M j = x at *
      generalize Wm.C N (K - j) = y at *
      generalize Wm.sumTo (fun i => Wm.C M i * Wm.C N (K - i)) j = s at *
      go_wp2_with fail
      refine (unhide C2' _).mono ?_
      rintro e w' ⟨rfl, E6⟩
      go_wp2_with fail
      refine (unhide C3' _).mono ?_
      rintro e w' ⟨rfl, E7⟩
      go_wp2_with fail
      refine (good_made [0, 0] _ _ _ _ rfl rfl (by decide)).mono ?_
      rintro e w' ⟨rfl, rfl⟩
      go_wp2
      go_roundw
      case rel => exact ⟨j + 1, by omega, by go_num, by rw [unhide HN], ((hext.trans E6).trans E7).alloc _⟩
      case measure => simp [intOf]; omega
    · obtain rfl : j = K + 1 := by omega
      rw [unhide HV]
      go_wp2
      go_ret
      exact ⟨rfl, hext⟩

end Go.Proofs.Yticphnjljnhlcaa

/-
  The contracts of hamming.Get and of wholeref.Ones.
-/
import Derived.Test.YtjgilodibloeiaaHamming1
namespace Go.Proofs.Ytjgilodibloeiaa
open Go.RowKit

theorem readstep (a v k m : Nat) (ha : a < 65536) (hm : m < 15) :
    bits .or .u16 (a : Int) (IntKind.u16.wrap (((v / 2 ^ k % 2 : Nat) : Int) * 2 ^ m)) = ((a ||| (v / 2 ^ k % 2 * 2 ^ m) : Nat) : Int) := by
  have h := Wm.mod_mul_lt (v / 2 ^ k) m
  have h2 := pow_lt16 (k := m + 1) (by omega)
  have e : ((v / 2 ^ k % 2 : Nat) : Int) * 2 ^ m = ((v / 2 ^ k % 2 * 2 ^ m : Nat) : Int) := by push_cast; rfl
  rw [e, IntWalk.u16_in _ (by omega), u16_or_nat _ _ ha (by omega)]

set_option maxRecDepth 100000 in
set_option maxHeartbeats 2000000 in
theorem Get_loop (v0 v s : Nat) (hv0 : v0 < 32768) (hv : v < 32768) (hs : s < 16) (w : World)
    (hcase : (s = 0 ∧ v = v0) ∨ (∃ S, s = S + 1 ∧ v = v0 ^^^ 2 ^ S)) (hsum : Wm.hsum v0 15 = s) :
    Calls Try.prog 28 #[.int .u16 v0] w fun e w' => e = .returned (.tuple #[.int .u16 (Wm.hread v 15).1, .int .i64 s, .int .i64 0]) ∧ w' = w := by
  have c1 := fun w : World => hsum_any v0 (by omega) w
  rw [hsum] at c1
  clear hsum
  rcases hcase with ⟨rfl, rfl⟩ | ⟨S, rfl, hvx⟩
  · have C1 := hide c1
    have HV := hide hv
    have hz : decide ((32768 : Int) ≤ (v : Int)) = false := decide_eq_false (by omega)
    clear c1 hv hv0 hs
    go_enter Try.func28, Try.ntmps28
    go_wp2_with fail
    refine (unhide C1 _).mono ?_
    rintro e w' ⟨rfl, rfl⟩
    go_wp2
    go_loop [6, 7, 8] (fun p r q => ∃ k : Nat, k ≤ 15 ∧ p = .int .u16 (Wm.hread v k).1 ∧ r = .int .i64 (Wm.hread v k).2 ∧ q = .int .i64 ((k : Int) + 1)) (fun _ _ q => 20 - (intOf q).toNat)
    case atStart => exact ⟨0, by omega, rfl, rfl, rfl⟩
    case round =>
      obtain ⟨k, hk, rfl, rfl, rfl⟩ := hrel
      have hv := unhide HV
      have hb := Wm.hread_lt v k
      have hpk := pow_lt16 (k := (Wm.hread v k).2) (by omega)
      by_cases hlt : k < 15
      · have hst : Wm.hread v (k + 1) = if Wm.hpar (k + 1) then Wm.hread v k else ((Wm.hread v k).1 ||| (v / 2 ^ k % 2 * 2 ^ (Wm.hread v k).2), (Wm.hread v k).2 + 1) := rfl
        have hdv : v / 2 ^ k < 65536 := Nat.lt_of_le_of_lt (Nat.div_le_self _ _) (by omega)
        have hand := u16_and_one (v / 2 ^ k) hdv
        rw [← div_pow_cast] at hand
        have hor := readstep (Wm.hread v k).1 v k (Wm.hread v k).2 (by omega) (by omega)
        rw [← hand] at hor
        have HO := hide hor
        have c1 := par_any k (by omega)
        have hb1 : (Wm.hread v k).1 < 65536 := by omega
        have hb2 : (Wm.hread v k).2 ≤ 15 := by omega
        clear hand hor hpk hb hdv hv
        by_cases hp : Wm.hpar (k + 1) = true
        · rw [if_pos hp] at hst
          rw [hp] at c1
          have C2 := hide c1
          have HS := hide hst
          clear c1 hst hp
          go_wp2_with fail
          refine (unhide C2 _).mono ?_
          rintro e w' ⟨rfl, rfl⟩
          go_wp2
          go_round
          case rel => exact ⟨k + 1, by omega, by rw [unhide HS], by rw [unhide HS], by go_num⟩
          case measure => simp [intOf]; omega
        · rw [if_neg hp] at hst
          simp only [Bool.not_eq_true] at hp
          rw [hp] at c1
          have C2 := hide c1
          have HS := hide hst
          clear c1 hst hp
          go_wp2_with fail
          refine (unhide C2 _).mono ?_
          rintro e w' ⟨rfl, rfl⟩
          go_wp2
          go_round
          case rel => exact ⟨k + 1, by omega, by rw [unhide HS, unhide HO], by rw [unhide HS]; go_num, by go_num⟩
          case measure => simp [intOf]; omega
      · obtain rfl : k = 15 := by omega
        clear hv hb hpk
        go_wp2
        go_ret3
        exact ⟨rfl, rfl⟩
  · have hc : ((S + 1 : Nat) : Int) = (S : Int) + 1 := by omega
    rw [hc] at c1
    have hS : S < 15 := by omega
    have hxw : bits .xor .u16 (v0 : Int) (IntKind.u16.wrap (2 ^ S)) = (v : Int) := by
      have h2 := Wm.bit_lt hS
      have e : (2 : Int) ^ S = ((2 ^ S : Nat) : Int) := by push_cast; rfl
      rw [e]
      generalize 2 ^ S = P at *
      rw [IntWalk.u16_in _ (by omega), u16_xor_nat _ _ (by omega) (by omega), hvx]
    have C1 := hide c1
    have HV := hide hv
    have HXW := hide hxw
    have HC := hide hc
    have hz : decide ((32768 : Int) ≤ (v0 : Int)) = false := decide_eq_false (by omega)
    clear c1 hv hv0 hs hvx hxw hc
    go_enter Try.func28, Try.ntmps28
    go_wp2_with fail
    refine (unhide C1 _).mono ?_
    rintro e w' ⟨rfl, rfl⟩
    go_wp2
    rw [unhide HXW]
    clear hz
    go_loop [6, 7, 8] (fun p r q => ∃ k : Nat, k ≤ 15 ∧ p = .int .u16 (Wm.hread v k).1 ∧ r = .int .i64 (Wm.hread v k).2 ∧ q = .int .i64 ((k : Int) + 1)) (fun _ _ q => 20 - (intOf q).toNat)
    case atStart => exact ⟨0, by omega, rfl, rfl, rfl⟩
    case round =>
      obtain ⟨k, hk, rfl, rfl, rfl⟩ := hrel
      have hv := unhide HV
      have hb := Wm.hread_lt v k
      have hpk := pow_lt16 (k := (Wm.hread v k).2) (by omega)
      by_cases hlt : k < 15
      · have hst : Wm.hread v (k + 1) = if Wm.hpar (k + 1) then Wm.hread v k else ((Wm.hread v k).1 ||| (v / 2 ^ k % 2 * 2 ^ (Wm.hread v k).2), (Wm.hread v k).2 + 1) := rfl
        have hdv : v / 2 ^ k < 65536 := Nat.lt_of_le_of_lt (Nat.div_le_self _ _) (by omega)
        have hand := u16_and_one (v / 2 ^ k) hdv
        rw [← div_pow_cast] at hand
        have hor := readstep (Wm.hread v k).1 v k (Wm.hread v k).2 (by omega) (by omega)
        rw [← hand] at hor
        have HO := hide hor
        have c1 := par_any k (by omega)
        have hb1 : (Wm.hread v k).1 < 65536 := by omega
        have hb2 : (Wm.hread v k).2 ≤ 15 := by omega
        clear hand hor hpk hb hdv hv
        by_cases hp : Wm.hpar (k + 1) = true
        · rw [if_pos hp] at hst
          rw [hp] at c1
          have C2 := hide c1
          have HS := hide hst
          clear c1 hst hp
          go_wp2_with fail
          refine (unhide C2 _).mono ?_
          rintro e w' ⟨rfl, rfl⟩
          go_wp2
          go_round
          case rel => exact ⟨k + 1, by omega, by rw [unhide HS], by rw [unhide HS], by go_num⟩
          case measure => simp [intOf]; omega
        · rw [if_neg hp] at hst
          simp only [Bool.not_eq_true] at hp
          rw [hp] at c1
          have C2 := hide c1
          have HS := hide hst
          clear c1 hst hp
          go_wp2_with fail
          refine (unhide C2 _).mono ?_
          rintro e w' ⟨rfl, rfl⟩
          go_wp2
          go_round
          case rel => exact ⟨k + 1, by omega, by rw [unhide HS, unhide HO], by rw [unhide HS]; go_num, by go_num⟩
          case measure => simp [intOf]; omega
      · obtain rfl : k = 15 := by omega
        clear hv hb hpk
        go_wp2
        go_ret3
        exact ⟨rfl, rfl⟩

theorem Get_ok (v : Nat) (hv : v < 32768) (w : World) :
    Calls Try.prog 28 #[.int .u16 v] w fun e w' => e = .returned (.tuple #[.int .u16 (Wm.hget v), .int .i64 (Wm.hsum v 15), .int .i64 0]) ∧ w' = w := by
  have hl := Wm.hsum_lt v 15 (by omega)
  have h := Get_loop v (Wm.hfix v) (Wm.hsum v 15) hv (Wm.hfix_spec hv).1 hl w (by
    unfold Wm.hfix
    by_cases h0 : Wm.hsum v 15 = 0
    · left; rw [if_pos h0]; exact ⟨h0, rfl⟩
    · right; rw [if_neg h0]; exact ⟨Wm.hsum v 15 - 1, by omega, rfl⟩) rfl
  exact h

set_option maxRecDepth 100000 in
set_option maxHeartbeats 1000000 in
theorem Ones_any (v : Nat) (hv : v < 65536) (w : World) :
    Calls Try.prog 25 #[.int .i64 v] w fun e w' => e = .returned (.int .i64 (Wm.ones16 v 16)) ∧ w' = w := by
  have HV := hide hv
  clear hv
  go_enter Try.func25, Try.ntmps25
  go_wp2
  go_loop [3, 5] (fun p q => ∃ k : Nat, k ≤ 16 ∧ p = .int .i64 (Wm.ones16 v k) ∧ q = .int .i64 k) (fun _ q => 20 - (intOf q).toNat)
  case atStart => exact ⟨0, by omega, rfl, rfl⟩
  case round =>
    obtain ⟨k, hk, rfl, rfl⟩ := hrel
    by_cases hlt : k < 16
    · have hv := unhide HV
      have hdv : v / 2 ^ k < 65536 := Nat.lt_of_le_of_lt (Nat.div_le_self _ _) hv
      have hand := i64_and_one (v / 2 ^ k) (by omega)
      rw [← div_pow_cast] at hand
      have hle : Wm.ones16 v k ≤ k := Wm.ones16_le v k
      have hst : Wm.ones16 v (k + 1) = Wm.ones16 v k + v / 2 ^ k % 2 := rfl
      have hm : v / 2 ^ k % 2 ≤ 1 := by omega
      have HS := hide hst
      clear hst hdv hv
      go_wp2
      go_round
      case rel => exact ⟨k + 1, by omega, by rw [unhide HS]; go_num, by go_num⟩
      case measure => simp [intOf]; omega
    · obtain rfl : k = 16 := by omega
      go_wp2
      go_ret
      exact ⟨rfl, rfl⟩

end Go.Proofs.Ytjgilodibloeiaa

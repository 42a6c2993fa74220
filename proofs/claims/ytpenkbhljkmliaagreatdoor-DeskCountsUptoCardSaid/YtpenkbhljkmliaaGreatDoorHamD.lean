/-
  The contracts of package hamming (names turned so that they stand beside package reed), and of wholeref.Ones.
-/
import Derived.Test.YtpenkbhljkmliaaGreatDoorTri
import Derived.Test.YtpenkbhljkmliaaGreatDoorTri
import Derived.Test.YtpenkbhljkmliaaGreatDoorHamming0
set_option linter.unusedVariables false
set_option linter.unusedSimpArgs false
namespace Go.Proofs.YtpenkbhljkmliaaGreatDoor
open Go.RowKit

theorem pow_lt16 {k : Nat} (h : k ≤ 15) : 2 ^ k < 65536 := Nat.pow_lt_pow_right (n := 16) (by omega) (by omega)
theorem div_pow_cast (v k : Nat) : (v : Int) / 2 ^ k = ((v / 2 ^ k : Nat) : Int) := by push_cast; rfl
theorem orstep (a b k : Nat) (ha : a < 65536) (hk : k < 15) :
    bits .or .u16 (a : Int) (IntKind.u16.wrap (((b % 2 : Nat) : Int) * 2 ^ k)) = ((a ||| (b % 2 * 2 ^ k) : Nat) : Int) := by
  have h := Wm.mod_mul_lt b k
  have h2 := pow_lt16 (k := k + 1) (by omega)
  have e : ((b % 2 : Nat) : Int) * 2 ^ k = ((b % 2 * 2 ^ k : Nat) : Int) := by push_cast; rfl
  rw [e, IntWalk.u16_in _ (by omega), u16_or_nat _ _ ha (by omega)]

set_option maxRecDepth 100000 in
set_option maxHeartbeats 1000000 in
theorem hsum_any (v : Nat) (hv : v < 65536) (w : World) :
    Calls Tryz.prog 51 #[.int .u16 v] w fun e w' => e = .returned (.int .i64 (Wm.hsum v 15)) ∧ w' = w := by
  go_enter Tryz.func51, Tryz.ntmps51
  go_wp2
  go_loop [3, 4] (fun p q => ∃ k : Nat, k ≤ 15 ∧ p = .int .i64 (Wm.hsum v k) ∧ q = .int .i64 ((k : Int) + 1)) (fun _ q => 20 - (intOf q).toNat)
  case atStart => exact ⟨0, by omega, rfl, rfl⟩
  case round =>
    obtain ⟨k, hk, rfl, rfl⟩ := hrel
    by_cases hlt : k < 15
    · have hl := Wm.hsum_lt v k (by omega)
      have hdv : v / 2 ^ k < 65536 := Nat.lt_of_le_of_lt (Nat.div_le_self _ _) hv
      have hand := u16_and_one (v / 2 ^ k) hdv
      rw [← div_pow_cast] at hand
      have hx : bits .xor .i64 (Wm.hsum v k : Int) ((k : Int) + 1) = ((Wm.hsum v k ^^^ (k + 1) : Nat) : Int) := i64_xor_nat (Wm.hsum v k) (k + 1) (by omega) (by omega)
      have hst : Wm.hsum v (k + 1) = if v / 2 ^ k % 2 = 1 then Wm.hsum v k ^^^ (k + 1) else Wm.hsum v k := rfl
      have HX := hide hx
      clear hx
      by_cases hb : v / 2 ^ k % 2 = 1
      · rw [if_pos hb] at hst
        have hand' : (bits .and .u16 ((v : Int) / 2 ^ k) 1 == 1) = true := by rw [hand, beq_iff_eq]; omega
        have HS := hide hst
        clear hand hst hb hdv
        go_wp2
        go_round
        case rel => exact ⟨k + 1, by omega, by rw [unhide HS, ← unhide HX], by go_num⟩
        case measure => simp [intOf]; omega
      · rw [if_neg hb] at hst
        have hand' : (bits .and .u16 ((v : Int) / 2 ^ k) 1 == 1) = false := by rw [hand, beq_eq_false_iff_ne]; omega
        have HS := hide hst
        clear hand hst hb hdv
        go_wp2
        go_round
        case rel => exact ⟨k + 1, by omega, by rw [unhide HS], by go_num⟩
        case measure => simp [intOf]; omega
    · obtain rfl : k = 15 := by omega
      go_wp2
      go_ret
      exact ⟨rfl, rfl⟩

set_option maxRecDepth 100000 in
set_option maxHeartbeats 1000000 in
theorem par_any (k : Nat) (hk : k < 16) (w : World) :
    Calls Tryz.prog 50 #[.int .i64 ((k : Int) + 1)] w fun e w' => e = .returned (.bool (Wm.hpar (k + 1))) ∧ w' = w := by
  have h : bits .and .i64 ((k : Int) + 1) (k : Int) = ((Nat.land (k + 1) k : Nat) : Int) := i64_and_nat (k + 1) k (by omega) (by omega)
  have hp : (((Nat.land (k + 1) k : Nat) : Int) == 0) = Wm.hpar (k + 1) := by
    unfold Wm.hpar
    rw [Nat.add_sub_cancel, Bool.eq_iff_iff, beq_iff_eq, beq_iff_eq]
    omega
  have H := hide h
  have HP := hide hp
  clear h hp
  go_enter Tryz.func50, Tryz.ntmps50
  go_wp2
  go_ret
  exact ⟨ret_boolv (by rw [← unhide HP, ← unhide H]), rfl⟩

set_option maxRecDepth 100000 in
set_option maxHeartbeats 2000000 in
theorem hPut_ok (d : Nat) (hd : d < 2048) (w : World) :
    Calls Tryz.prog 35 #[.int .u16 d] w fun e w' => e = .returned (.tuple #[.int .u16 (Wm.hput d), .int .i64 0]) ∧ w' = w := by
  go_enter Tryz.func35, Tryz.ntmps35
  go_wp2
  go_loop [0, 4, 5] (fun o p q => ∃ k : Nat, k ≤ 15 ∧ p = .int .u16 (Wm.hlay d k).1 ∧ o = .int .u16 (Wm.hlay d k).2 ∧ q = .int .i64 ((k : Int) + 1)) (fun _ _ q => 20 - (intOf q).toNat)
  case atStart => exact ⟨0, by omega, rfl, rfl, rfl⟩
  case round =>
    obtain ⟨k, hk, rfl, rfl, rfl⟩ := hrel
    have hb := Wm.hlay_lt d k
    have hpk := pow_lt16 (k := k) hk
    by_cases hlt : k < 15
    · have hst : Wm.hlay d (k + 1) = if Wm.hpar (k + 1) then Wm.hlay d k else ((Wm.hlay d k).1 ||| ((Wm.hlay d k).2 % 2 * 2 ^ k), (Wm.hlay d k).2 / 2) := rfl
      have hand := u16_and_one (Wm.hlay d k).2 (by omega)
      have hor := orstep (Wm.hlay d k).1 (Wm.hlay d k).2 k (by omega) hlt
      rw [← hand] at hor
      have HO := hide hor
      have c1 := par_any k (by omega)
      have hb1 : (Wm.hlay d k).1 < 65536 := by omega
      have hb2 : (Wm.hlay d k).2 < 65536 := by omega
      clear hand hor hpk hb
      by_cases hp : Wm.hpar (k + 1) = true
      · rw [if_pos hp] at hst
        rw [hp] at c1
        have C1 := hide c1
        have HS := hide hst
        clear c1 hst hp
        go_wp2_with fail
        refine (unhide C1 _).mono ?_
        rintro e w' ⟨rfl, rfl⟩
        go_wp2
        go_round
        case rel => exact ⟨k + 1, by omega, by rw [unhide HS], by rw [unhide HS], by go_num⟩
        case measure => simp [intOf]; omega
      · rw [if_neg hp] at hst
        simp only [Bool.not_eq_true] at hp
        rw [hp] at c1
        have C1 := hide c1
        have HS := hide hst
        clear c1 hst hp
        go_wp2_with fail
        refine (unhide C1 _).mono ?_
        rintro e w' ⟨rfl, rfl⟩
        go_wp2
        go_round
        case rel => exact ⟨k + 1, by omega, by rw [unhide HS, unhide HO], by rw [unhide HS]; go_num, by go_num⟩
        case measure => simp [intOf]; omega
    · obtain rfl : k = 15 := by omega
      have ha : (Wm.hlay d 15).1 < 32768 := hb.1
      have hput : Wm.hput d = Wm.hset (Wm.hsum (Wm.hlay d 15).1 15) (Wm.hlay d 15).1 4 := rfl
      have HPUT := hide hput
      have c2 := hide (fun w : World => hsum_any (Wm.hlay d 15).1 (by omega) w)
      have hs := Wm.hsum_lt (Wm.hlay d 15).1 15 (by omega)
      generalize Wm.hsum (Wm.hlay d 15).1 15 = s at *
      generalize (Wm.hlay d 15).1 = A at *
      clear hput hb hpk
      go_wp2_with fail
      refine (unhide c2 _).mono ?_
      rintro e w' ⟨rfl, rfl⟩
      go_wp2
      go_loop [4, 7] (fun p q => (p = .int .u16 (Wm.hset s A 0) ∧ q = .int .i64 1) ∨ (p = .int .u16 (Wm.hset s A 1) ∧ q = .int .i64 2) ∨ (p = .int .u16 (Wm.hset s A 2) ∧ q = .int .i64 4) ∨ (p = .int .u16 (Wm.hset s A 3) ∧ q = .int .i64 8) ∨ (p = .int .u16 (Wm.hset s A 4) ∧ q = .int .i64 16)) (fun _ q => 20 - (intOf q).toNat)
      case atStart => exact .inl ⟨rfl, rfl⟩
      case round =>
        rcases hrel with ⟨rfl, rfl⟩ | ⟨rfl, rfl⟩ | ⟨rfl, rfl⟩ | ⟨rfl, rfl⟩ | ⟨rfl, rfl⟩
        · have hl := Wm.hset_lt s A ha 0 (by omega)
          have hst : Wm.hset s A 1 = if Nat.land s 1 = 0 then Wm.hset s A 0 else Wm.hset s A 0 ||| 1 := rfl
          have hand : bits .and .i64 (s : Int) 1 = ((Nat.land s 1 : Nat) : Int) := i64_and_nat s 1 (by omega) (by omega)
          have hor : bits .or .u16 (Wm.hset s A 0 : Int) 1 = ((Wm.hset s A 0 ||| 1 : Nat) : Int) := u16_or_nat _ 1 (by omega) (by omega)
          have HO := hide hor
          clear hor
          by_cases h0 : Nat.land s 1 = 0
          · rw [if_pos h0] at hst
            have hz : (bits .and .i64 (s : Int) 1 != 0) = false := by rw [hand, h0]; rfl
            have HS := hide hst
            clear hst hand h0
            go_wp2
            go_round
            case rel => exact .inr (.inl ⟨by rw [unhide HS], rfl⟩)
            case measure => simp [intOf]
          · rw [if_neg h0] at hst
            have hz : (bits .and .i64 (s : Int) 1 != 0) = true := by rw [hand, bne_iff_ne]; omega
            have HS := hide hst
            clear hst hand h0
            go_wp2
            go_round
            case rel => exact .inr (.inl ⟨by rw [unhide HS, ← unhide HO], rfl⟩)
            case measure => simp [intOf]
        · have hl := Wm.hset_lt s A ha 1 (by omega)
          have hst : Wm.hset s A 2 = if Nat.land s 2 = 0 then Wm.hset s A 1 else Wm.hset s A 1 ||| 2 := rfl
          have hand : bits .and .i64 (s : Int) 2 = ((Nat.land s 2 : Nat) : Int) := i64_and_nat s 2 (by omega) (by omega)
          have hor : bits .or .u16 (Wm.hset s A 1 : Int) 2 = ((Wm.hset s A 1 ||| 2 : Nat) : Int) := u16_or_nat _ 2 (by omega) (by omega)
          have HO := hide hor
          clear hor
          by_cases h0 : Nat.land s 2 = 0
          · rw [if_pos h0] at hst
            have hz : (bits .and .i64 (s : Int) 2 != 0) = false := by rw [hand, h0]; rfl
            have HS := hide hst
            clear hst hand h0
            go_wp2
            go_round
            case rel => exact .inr (.inr (.inl ⟨by rw [unhide HS], rfl⟩))
            case measure => simp [intOf]
          · rw [if_neg h0] at hst
            have hz : (bits .and .i64 (s : Int) 2 != 0) = true := by rw [hand, bne_iff_ne]; omega
            have HS := hide hst
            clear hst hand h0
            go_wp2
            go_round
            case rel => exact .inr (.inr (.inl ⟨by rw [unhide HS, ← unhide HO], rfl⟩))
            case measure => simp [intOf]
        · have hl := Wm.hset_lt s A ha 2 (by omega)
          have hst : Wm.hset s A 3 = if Nat.land s 4 = 0 then Wm.hset s A 2 else Wm.hset s A 2 ||| 8 := rfl
          have hand : bits .and .i64 (s : Int) 4 = ((Nat.land s 4 : Nat) : Int) := i64_and_nat s 4 (by omega) (by omega)
          have hor : bits .or .u16 (Wm.hset s A 2 : Int) 8 = ((Wm.hset s A 2 ||| 8 : Nat) : Int) := u16_or_nat _ 8 (by omega) (by omega)
          have HO := hide hor
          clear hor
          by_cases h0 : Nat.land s 4 = 0
          · rw [if_pos h0] at hst
            have hz : (bits .and .i64 (s : Int) 4 != 0) = false := by rw [hand, h0]; rfl
            have HS := hide hst
            clear hst hand h0
            go_wp2
            go_round
            case rel => exact .inr (.inr (.inr (.inl ⟨by rw [unhide HS], rfl⟩)))
            case measure => simp [intOf]
          · rw [if_neg h0] at hst
            have hz : (bits .and .i64 (s : Int) 4 != 0) = true := by rw [hand, bne_iff_ne]; omega
            have HS := hide hst
            clear hst hand h0
            go_wp2
            go_round
            case rel => exact .inr (.inr (.inr (.inl ⟨by rw [unhide HS, ← unhide HO], rfl⟩)))
            case measure => simp [intOf]
        · have hl := Wm.hset_lt s A ha 3 (by omega)
          have hst : Wm.hset s A 4 = if Nat.land s 8 = 0 then Wm.hset s A 3 else Wm.hset s A 3 ||| 128 := rfl
          have hand : bits .and .i64 (s : Int) 8 = ((Nat.land s 8 : Nat) : Int) := i64_and_nat s 8 (by omega) (by omega)
          have hor : bits .or .u16 (Wm.hset s A 3 : Int) 128 = ((Wm.hset s A 3 ||| 128 : Nat) : Int) := u16_or_nat _ 128 (by omega) (by omega)
          have HO := hide hor
          clear hor
          by_cases h0 : Nat.land s 8 = 0
          · rw [if_pos h0] at hst
            have hz : (bits .and .i64 (s : Int) 8 != 0) = false := by rw [hand, h0]; rfl
            have HS := hide hst
            clear hst hand h0
            go_wp2
            go_round
            case rel => exact .inr (.inr (.inr (.inr ⟨by rw [unhide HS], rfl⟩)))
            case measure => simp [intOf]
          · rw [if_neg h0] at hst
            have hz : (bits .and .i64 (s : Int) 8 != 0) = true := by rw [hand, bne_iff_ne]; omega
            have HS := hide hst
            clear hst hand h0
            go_wp2
            go_round
            case rel => exact .inr (.inr (.inr (.inr ⟨by rw [unhide HS, ← unhide HO], rfl⟩)))
            case measure => simp [intOf]
        · go_wp2
          go_ret2
          exact ⟨by rw [unhide HPUT]; rfl, rfl⟩

end Go.Proofs.YtpenkbhljkmliaaGreatDoor

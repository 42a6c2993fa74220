/-
  The contracts of package field.
-/
import Derived.Test.YtpenkbhljkmliaaGreatDoorTri
import Derived.Test.YtpenkbhljkmliaaGreatDoorField0
import Derived.Test.YtpenkbhljkmliaaGreatDoorTri
set_option linter.unusedVariables false
set_option linter.unusedSimpArgs false
namespace Go.Proofs.YtpenkbhljkmliaaGreatDoor
open Go.RowKit

set_option maxRecDepth 100000 in
set_option maxHeartbeats 1000000 in
theorem Mul_any (a b : Nat) (ha : a < 256) (hb : b < 256) (w : World) :
    Calls Tryz.prog 129 #[.int .u8 a, .int .u8 b] w fun e w' => e = .returned (.int .u8 (Wm.fmul a b)) ∧ w' = w := by
  go_enter Tryz.func129, Tryz.ntmps129
  go_wp2
  go_loop [1, 5, 6] (fun p q r => ∃ f x b' o : Nat, p = .int .u8 b' ∧ q = .int .i64 x ∧ r = .int .i64 o ∧ x < 256 ∧ o < 256 ∧ b' < 256 ∧ Hid (b' < 2 ^ f ∧ Wm.gm f x b' o = Wm.fmul a b)) (fun p _ _ => (intOf p).toNat)
  case atStart => exact ⟨8, a, b, 0, rfl, rfl, rfl, ha, by omega, hb, hide ⟨by omega, rfl⟩⟩
  case round =>
    obtain ⟨f, x, b', o, rfl, rfl, rfl, hx, ho, hb', hi⟩ := hrel
    by_cases h0 : b' = 0
    · subst h0
      have e := (unhide hi).2
      rw [Wm.gm_zero] at e
      have E := hide e
      clear e
      go_wp2
      go_ret
      exact ⟨ret_int (by rw [← unhide E]), rfl⟩
    · have hb0 : 0 < b' := by omega
      have hf : 0 < f := by
        rcases Nat.eq_zero_or_pos f with h | h
        · subst h; have := (unhide hi).1; omega
        · exact h
      obtain ⟨g, rfl⟩ := Nat.exists_eq_add_of_le (show 1 ≤ f from hf)
      have hi1 := (unhide hi).1
      have hi2 := (unhide hi).2
      rw [Nat.add_comm 1 g] at hi1 hi2
      simp only [Wm.gm] at hi2
      rw [Nat.pow_succ] at hi1
      have hand := u8_and_one b' hb'
      have hx2 : ((x * 2 : Nat) : Int) = (x : Int) * 2 := by omega
      have hxor : bits .xor .i64 ((x : Int) * 2) 285 = (((x * 2) ^^^ 285 : Nat) : Int) := by
        have := i64_xor_nat (x * 2) 285 (by omega) (by omega)
        rw [hx2] at this
        exact this
      have hxor2 := i64_xor_nat o x (by omega) (by omega)
      have HX1 := hide hxor
      have HX2 := hide hxor2
      have hst := Wm.fstep_lt hx
      have hox := Wm.xor_lt ho hx
      have hfs1 : 255 < x * 2 → Wm.fstep x = (x * 2) ^^^ 285 := fun h => by unfold Wm.fstep; rw [if_pos (by omega), Nat.mul_comm]
      have hfs2 : ¬ 255 < x * 2 → Wm.fstep x = x * 2 := fun h => by unfold Wm.fstep; rw [if_neg (by omega), Nat.mul_comm]
      clear hxor hxor2 hx2
      by_cases hodd : b' % 2 = 1
      · have hand' : (bits .and .u8 (b' : Int) 1 == 1) = true := by rw [hand, beq_iff_eq]; omega
        rw [if_pos hodd] at hi2
        by_cases hbig : 255 < x * 2
        · rw [hfs1 hbig] at hi2 hst
          have HI := hide (⟨by omega, hi2⟩ : b' / 2 < 2 ^ g ∧ _)
          have hbig' : (255 : Int) < (x : Int) * 2 := by omega
          clear hand hodd hbig hi2 hi1 hfs1 hfs2
          go_wp2
          go_round
          case rel => exact ⟨g, (x * 2) ^^^ 285, b' / 2, o ^^^ x, by go_num, by rw [← unhide HX1], by rw [← unhide HX2], hst, hox, by omega, HI⟩
          case measure => simp [intOf]; omega
        · rw [hfs2 hbig] at hi2 hst
          have HI := hide (⟨by omega, hi2⟩ : b' / 2 < 2 ^ g ∧ _)
          have hbig' : ¬ (255 : Int) < (x : Int) * 2 := by omega
          clear hand hodd hbig hi2 hi1 hfs1 hfs2
          go_wp2
          go_round
          case rel => exact ⟨g, x * 2, b' / 2, o ^^^ x, by go_num, by go_num, by rw [← unhide HX2], hst, hox, by omega, HI⟩
          case measure => simp [intOf]; omega
      · have hand' : (bits .and .u8 (b' : Int) 1 == 1) = false := by rw [hand, beq_eq_false_iff_ne]; omega
        rw [if_neg hodd] at hi2
        by_cases hbig : 255 < x * 2
        · rw [hfs1 hbig] at hi2 hst
          have HI := hide (⟨by omega, hi2⟩ : b' / 2 < 2 ^ g ∧ _)
          have hbig' : (255 : Int) < (x : Int) * 2 := by omega
          clear hand hodd hbig hi2 hi1 hfs1 hfs2
          go_wp2
          go_round
          case rel => exact ⟨g, (x * 2) ^^^ 285, b' / 2, o, by go_num, by rw [← unhide HX1], rfl, hst, ho, by omega, HI⟩
          case measure => simp [intOf]; omega
        · rw [hfs2 hbig] at hi2 hst
          have HI := hide (⟨by omega, hi2⟩ : b' / 2 < 2 ^ g ∧ _)
          have hbig' : ¬ (255 : Int) < (x : Int) * 2 := by omega
          clear hand hodd hbig hi2 hi1 hfs1 hfs2
          go_wp2
          go_round
          case rel => exact ⟨g, x * 2, b' / 2, o, by go_num, by go_num, rfl, hst, ho, by omega, HI⟩
          case measure => simp [intOf]; omega

set_option maxRecDepth 100000 in
set_option maxHeartbeats 1000000 in
theorem fpow_any (a n : Nat) (ha : a < 256) (hn : n ≤ 4611686018427387904) (w : World) :
    Calls Tryz.prog 130 #[.int .u8 a, .int .i64 n] w fun e w' => e = .returned (.tuple #[.int .u8 (Wm.fpow a n), .int .i64 0]) ∧ w' = w := by
  go_enter Tryz.func130, Tryz.ntmps130
  go_wp2
  go_loop [0, 1, 6] (fun p q r => ∃ x k o : Nat, p = .int .u8 x ∧ q = .int .i64 k ∧ r = .int .u8 o ∧ x < 256 ∧ o < 256 ∧ k ≤ n ∧ Hid (Wm.fmul o (Wm.fpow x k) = Wm.fpow a n)) (fun _ q _ => (intOf q).toNat)
  case atStart => exact ⟨a, n, 1, rfl, rfl, rfl, ha, by omega, by omega, hide (Wm.one_fmul (Wm.fpow_lt ha n))⟩
  case round =>
    obtain ⟨x, k, o, rfl, rfl, rfl, hx, ho, hk, hi⟩ := hrel
    by_cases h0 : k = 0
    · subst h0
      have e := unhide hi
      simp only [Wm.fpow] at e
      rw [Wm.fmul_one ho] at e
      have E := hide e
      clear e
      go_wp2
      go_ret2
      exact ⟨by rw [← unhide E]; rfl, rfl⟩
    · have hk0 : 0 < k := by omega
      have hxx := Wm.fmul_lt hx hx
      have hand := i64_and_one k (by omega)
      have c2 := hide (fun w : World => Mul_any x x hx hx w)
      by_cases hodd : k % 2 = 1
      · have hand' : (bits .and .i64 (k : Int) 1 == 1) = true := by rw [hand, beq_iff_eq]; omega
        have hox := Wm.fmul_lt ho hx
        have HI := hide ((Wm.fpow_odd hx ho hodd).trans (unhide hi))
        have c1 := hide (fun w : World => Mul_any o x ho hx w)
        clear hand hodd
        go_wp2_with fail
        refine (unhide c1 _).mono ?_
        rintro e w' ⟨rfl, rfl⟩
        go_wp2_with fail
        refine (unhide c2 _).mono ?_
        rintro e w' ⟨rfl, rfl⟩
        go_wp2
        go_round
        case rel => exact ⟨Wm.fmul x x, k / 2, Wm.fmul o x, rfl, by go_num, rfl, hxx, hox, by omega, HI⟩
        case measure => simp [intOf]; omega
      · have hand' : (bits .and .i64 (k : Int) 1 == 1) = false := by rw [hand, beq_eq_false_iff_ne]; omega
        have HI := hide ((show Wm.fmul o (Wm.fpow (Wm.fmul x x) (k / 2)) = Wm.fmul o (Wm.fpow x k) by rw [Wm.fpow_even hx (by omega)]).trans (unhide hi))
        clear hand hodd
        go_wp2_with fail
        refine (unhide c2 _).mono ?_
        rintro e w' ⟨rfl, rfl⟩
        go_wp2
        go_round
        case rel => exact ⟨Wm.fmul x x, k / 2, o, rfl, by go_num, rfl, hxx, ho, by omega, HI⟩
        case measure => simp [intOf]; omega

theorem Inv_ok (a : Nat) (h0 : a ≠ 0) (ha : a < 256) (w : World) :
    Calls Tryz.prog 128 #[.int .u8 a] w fun e w' => e = .returned (.tuple #[.int .u8 (Wm.fpow a 254), .int .i64 0]) ∧ w' = w := by
  have hz : ((a : Int) == 0) = false := by rw [beq_eq_false_iff_ne]; omega
  have c1 := hide (fun w : World => fpow_any a 254 ha (by omega) w)
  clear h0
  go_enter Tryz.func128, Tryz.ntmps128
  go_wp2_with fail
  refine (unhide c1 _).mono ?_
  rintro e w' ⟨rfl, rfl⟩
  go_wp2
  go_ret2
  exact ⟨rfl, rfl⟩
theorem Inv_zero (w : World) :
    Calls Tryz.prog 128 #[.int .u8 0] w fun e w' => e = .returned (.tuple #[.int .u8 0, .int .i64 5]) ∧ w' = w := by
  go_enter Tryz.func128, Tryz.ntmps128
  go_wp2
  go_ret2
  exact ⟨rfl, rfl⟩


end Go.Proofs.YtpenkbhljkmliaaGreatDoor

import Derived.Test.YtpenkbhljkmliaaGreatDoorTri
import Derived.Test.YtpenkbhljkmliaaGreatDoorHamming0
import Derived.Test.YtpenkbhljkmliaaGreatDoorArith0
import Derived.Test.YtpenkbhljkmliaaGreatDoorArith1
/-
  The contracts of the functions of package euclid.
-/
set_option linter.unusedVariables false
set_option linter.unusedSimpArgs false
namespace Go.Proofs.YtpenkbhljkmliaaGreatDoor
open Go.RowKit


theorem in_any (a : Int) (w : World) :
    Calls Tryz.prog 66 #[.int .i64 a] w fun e w' => e = .returned (.bool (decide (-1000000000 ≤ a ∧ a ≤ 1000000000))) ∧ w' = w := by
  by_cases h1 : -1000000000 ≤ a
  · by_cases h2 : a ≤ 1000000000
    all_goals
      go_enter Tryz.func66, Tryz.ntmps66
      go_wp2
      go_ret
      exact ⟨by simp [h1, h2], rfl⟩
  · go_enter Tryz.func66, Tryz.ntmps66
    go_wp2
    go_ret
    exact ⟨by simp; omega, rfl⟩
theorem in_yes (a : Int) (w : World) (h1 : -1000000000 ≤ a) (h2 : a ≤ 1000000000) :
    Calls Tryz.prog 66 #[.int .i64 a] w fun e w' => e = .returned (.bool true) ∧ w' = w :=
  (in_any a w).mono fun _ _ ⟨he, hw⟩ => ⟨by rw [he, decide_eq_true ⟨h1, h2⟩], hw⟩
theorem in_no (a : Int) (w : World) (h : ¬ (-1000000000 ≤ a ∧ a ≤ 1000000000)) :
    Calls Tryz.prog 66 #[.int .i64 a] w fun e w' => e = .returned (.bool false) ∧ w' = w :=
  (in_any a w).mono fun _ _ ⟨he, hw⟩ => ⟨by rw [he, decide_eq_false h], hw⟩

set_option maxHeartbeats 400000 in
theorem gcd_any (a b : Int) (w : World) (ha : -1000000000 ≤ a ∧ a ≤ 1000000000) (hb : -1000000000 ≤ b ∧ b ≤ 1000000000) :
    Calls Tryz.prog 67 #[.int .i64 a, .int .i64 b] w fun e w' => e = .returned (.int .i64 (Int.gcd a b : Int)) ∧ ∃ n, w' = w.drewN n := by
  go_enter Tryz.func67, Tryz.ntmps67
  go_wp2
  go_loopw [0, 1] (fun x y wr => ∃ a' b' : Int, (-1000000000 ≤ a' ∧ a' ≤ 1000000000) ∧ (-1000000000 ≤ b' ∧ b' ≤ 1000000000) ∧ x = .int .i64 a' ∧ y = .int .i64 b' ∧ Hid (Int.gcd a' b' = Int.gcd a b) ∧ ∃ d, wr = w.drewN d) (fun _ y _ => (intOf y).natAbs)
  case atStart => exact ⟨a, b, ha, hb, rfl, rfl, hide rfl, 0, rfl⟩
  case round =>
    obtain ⟨a', b', ha', hb', rfl, rfl, hg, d, rfl⟩ := hrel
    clear ha hb
    by_cases h : b' = 0
    · subst h
      have e := unhide hg
      rw [Int.gcd_zero] at e
      have E := hide e
      clear e
      by_cases hs : 0 ≤ a'
      · go_wp2
        go_ret
        exact ⟨ret_int (by rw [← unhide E]; omega), d, rfl⟩
      · go_wp2
        go_ret
        exact ⟨ret_int (by rw [← unhide E]; omega), d, rfl⟩
    · have hm := Wm.tmod_abs a' h
      have hm2 : -1000000000 ≤ a'.tmod b' ∧ a'.tmod b' ≤ 1000000000 := by omega
      have e := hide ((Wm.gcd_tmod a' b').trans (unhide hg))
      go_wp2
      go_quiet (fail)
      go_wp2
      go_roundw
      case rel => exact ⟨b', a'.tmod b', hb', hm2, rfl, rfl, e, _, World.drewN_drewN _ _ _⟩
      case measure => simpa [intOf] using hm

set_option maxHeartbeats 400000 in
theorem Gcd_ok (a b : Int) (w : World) (ha : -1000000000 ≤ a ∧ a ≤ 1000000000) (hb : -1000000000 ≤ b ∧ b ≤ 1000000000) :
    Calls Tryz.prog 46 #[.int .i64 a, .int .i64 b] w fun e w' => e = .returned (.tuple #[.int .i64 (Int.gcd a b : Int), .int .i64 0]) ∧ ∃ n, w' = w.drewN n := by
  go_enter Tryz.func46, Tryz.ntmps46
  go_wp2_with fail
  refine (in_yes a _ ha.1 ha.2).mono ?_
  rintro e w' ⟨rfl, rfl⟩
  go_wp2_with fail
  refine (in_yes b _ hb.1 hb.2).mono ?_
  rintro e w' ⟨rfl, rfl⟩
  go_wp2_with fail
  refine (gcd_any a b _ ha hb).mono ?_
  rintro e w' ⟨rfl, n, rfl⟩
  go_wp2
  go_ret2
  exact ⟨rfl, n, rfl⟩

set_option maxHeartbeats 400000 in
theorem Gcd_bad (a b : Int) (w : World) (h : ¬ ((-1000000000 ≤ a ∧ a ≤ 1000000000) ∧ (-1000000000 ≤ b ∧ b ≤ 1000000000))) :
    Calls Tryz.prog 46 #[.int .i64 a, .int .i64 b] w fun e w' => e = .returned (.tuple #[.int .i64 0, .int .i64 1]) ∧ w' = w := by
  by_cases ha : -1000000000 ≤ a ∧ a ≤ 1000000000
  · have hb : ¬ (-1000000000 ≤ b ∧ b ≤ 1000000000) := fun hb => h ⟨ha, hb⟩
    have c1 := hide (fun w : World => in_yes a w ha.1 ha.2)
    have c2 := hide (fun w : World => in_no b w hb)
    clear h ha hb
    go_enter Tryz.func46, Tryz.ntmps46
    go_wp2_with fail
    refine (unhide c1 _).mono ?_
    rintro e w' ⟨rfl, rfl⟩
    go_wp2_with fail
    refine (unhide c2 _).mono ?_
    rintro e w' ⟨rfl, rfl⟩
    go_wp2
    go_ret2
    exact ⟨rfl, rfl⟩
  · have c1 := hide (fun w : World => in_no a w ha)
    clear h ha
    go_enter Tryz.func46, Tryz.ntmps46
    go_wp2_with fail
    refine (unhide c1 _).mono ?_
    rintro e w' ⟨rfl, rfl⟩
    go_wp2
    go_ret2
    exact ⟨rfl, rfl⟩

end Go.Proofs.YtpenkbhljkmliaaGreatDoor

/-
  The contracts of package rest, and of the functions of package euclid under it.
-/
set_option linter.unusedVariables false
set_option linter.unusedSimpArgs false
namespace Go.Proofs.YtpenkbhljkmliaaGreatDoor
open Go.RowKit

theorem of_ok (a m : Int) (w : World) (hm : 1 ≤ m) (hm2 : m ≤ 1000000) :
    Calls Tryz.prog 49 #[.int .i64 a, .int .i64 m] w fun e w' => e = .returned (.tuple #[.int .i64 (a % m), .int .i64 0]) ∧ w' = w := by
  have hb := Wm.tmod_bound a (show 0 < m by omega)
  have H := hide (show (a.tmod m + m) % m = a % m by rw [Int.add_emod_right, Wm.tmod_emod])
  generalize hT : a.tmod m = T at *
  go_enter Tryz.func49, Tryz.ntmps49
  go_wp2
  go_ret2
  exact ⟨ret_two (unhide H), rfl⟩

theorem of_bad (a m : Int) (w : World) (hm : ¬ (1 ≤ m ∧ m ≤ 1000000)) :
    Calls Tryz.prog 49 #[.int .i64 a, .int .i64 m] w fun e w' => e = .returned (.tuple #[.int .i64 0, .int .i64 1]) ∧ w' = w := by
  by_cases h1 : 1 ≤ m
  · have h2 : ¬ m ≤ 1000000 := fun h => hm ⟨h1, h⟩
    clear hm
    go_enter Tryz.func49, Tryz.ntmps49
    go_wp2
    go_ret2
    exact ⟨rfl, rfl⟩
  · clear hm
    go_enter Tryz.func49, Tryz.ntmps49
    go_wp2
    go_ret2
    exact ⟨rfl, rfl⟩


theorem mod_any (a m : Int) (w : World) (hm : 1 ≤ m) (hm2 : m ≤ 4000000000) :
    Calls Tryz.prog 68 #[.int .i64 a, .int .i64 m] w fun e w' => e = .returned (.int .i64 (a % m)) ∧ w' = w := by
  have hb := Wm.tmod_bound a (show 0 < m by omega)
  have H := hide (show (a.tmod m + m) % m = a % m by rw [Int.add_emod_right, Wm.tmod_emod])
  generalize hT : a.tmod m = T at *
  go_enter Tryz.func68, Tryz.ntmps68
  go_wp2
  go_ret
  exact ⟨ret_int (unhide H), rfl⟩

set_option maxHeartbeats 400000 in
theorem inverse_any (a m : Int) (w : World) (hm : 1 ≤ m) (hm2 : m ≤ 1000000000) :
    Calls Tryz.prog 47 #[.int .i64 a, .int .i64 m] w fun e w' => (∃ x : Int, e = .returned (.int .i64 x) ∧ (0 ≤ x ∧ x < m) ∧ m ∣ x * a - (Int.gcd a m : Int)) ∧ ∃ d, w' = w.drewN d := by
  have c1 := hide (fun w : World => mod_any a m w hm (by omega))
  have hb := Wm.emod_bound a (show 0 < m by omega)
  have hst := hide (Wm.ExtInv.start hm hb)
  have hfin : ∀ x a' y : Int, Wm.ExtInv m (a % m) a' 0 x y → m ∣ (x % m) * a - (Int.gcd a m : Int) := fun x a' y h => by
    have := h.last
    rw [Wm.gcd_emod] at this
    rw [← Wm.emod_congr] at this ⊢
    rw [Wm.mul_emod_right'] at this
    rw [Wm.mul_emod_left', this]
  have HF := hide hfin
  clear hfin
  generalize a % m = A at *
  go_enter Tryz.func47, Tryz.ntmps47
  go_wp2_with fail
  refine (unhide c1 w).mono ?_
  rintro e w' ⟨rfl, rfl⟩
  go_wp2
  go_loopw [0, 5, 6, 7, 8] (fun p q r s t wr => ∃ (a' b' x y : Int) , p = .int .i64 a' ∧ q = .int .i64 x ∧ r = .int .i64 y ∧ s = .int .i64 b' ∧ Hid (Wm.ExtInv m A a' b' x y) ∧ ∃ d, wr = w'.drewN d) (fun _ _ _ s _ _ => (intOf s).toNat)
  case atStart => exact ⟨A, m, 1, 0, rfl, rfl, rfl, rfl, hst, 0, rfl⟩
  case round =>
    obtain ⟨a', b', x, y, rfl, rfl, rfl, rfl, hi, d, rfl⟩ := hrel
    have i1 := (unhide hi).ha
    have i2 := (unhide hi).hb
    have i3 := (unhide hi).hx
    have i4 := (unhide hi).hy
    by_cases h : b' = 0
    · subst h
      have E := hide (unhide HF _ _ _ (unhide hi))
      go_wp2_with fail
      refine (mod_any x m _ hm (by omega)).mono ?_
      rintro e w' ⟨rfl, rfl⟩
      go_wp2
      go_ret
      exact ⟨⟨_, rfl, Wm.emod_bound x (by omega), unhide E⟩, d, rfl⟩
    · obtain ⟨j1, j2, j3, j4, j5⟩ := (unhide hi).step (show 0 < b' by omega)
      have k1 := j1.hy
      have J1 := hide j1
      clear j1
      go_wp2
      go_roundw
      case rel => exact ⟨_, _, _, _, rfl, rfl, rfl, rfl, J1, d, rfl⟩
      case measure => simp [intOf]; omega

/-- The inverse of what has one. -/
theorem inverse_cop (a m : Int) (hm : 1 ≤ m) (hm2 : m ≤ 1000000000) (hg : Int.gcd a m = 1) :
    (∀ w : World, Calls Tryz.prog 47 #[.int .i64 a, .int .i64 m] w fun e w' => e = .returned (.int .i64 (Wm.inv a m)) ∧ ∃ d, w' = w.drewN d) := fun w =>
  (inverse_any a m w hm hm2).mono fun e w' ⟨⟨x, he, hx, hd⟩, hw⟩ => ⟨by
    rw [hg] at hd
    rw [he, Wm.inv_spec hx hd], hw⟩
theorem inv_is (w : World) (a m : Int) (hm : 1 ≤ m) (hm2 : m ≤ 1000000000) (hg : Int.gcd a m = 1) : (0 ≤ Wm.inv a m ∧ Wm.inv a m < m) ∧ m ∣ Wm.inv a m * a - 1 := by
  obtain ⟨e, w', fr, ⟨⟨x, -, hx, hd⟩, -⟩, -⟩ := inverse_any a m w hm hm2 []
  rw [hg] at hd
  have hd' : m ∣ x * a - 1 := hd
  rw [Wm.inv_spec hx hd']
  exact ⟨hx, hd'⟩

set_option maxHeartbeats 400000 in
/-- Bezout's numbers of a and a positive b. -/
theorem bezout_pos (a b : Int) (w : World) (ha : -1000000000 ≤ a ∧ a ≤ 1000000000) (hb : 1 ≤ b ∧ b ≤ 1000000000) :
    Calls Tryz.prog 31 #[.int .i64 a, .int .i64 b] w fun e w' => (∃ x y : Int, e = .returned (.tuple #[.int .i64 x, .int .i64 y, .int .i64 (Int.gcd a b : Int), .int .i64 0]) ∧ (0 ≤ x ∧ x < b / (Int.gcd a b : Int)) ∧ b ∣ x * a - (Int.gcd a b : Int)) ∧ ∃ d, w' = w.drewN d := by
  have c1 := hide (fun w : World => Gcd_ok a b w ha (by omega))
  have hg : 0 < Int.gcd a b := Int.gcd_pos_of_ne_zero_right a (by omega)
  have hgb := Wm.gcd_le_bound (a := a) (b := b) (M := 1000000000) (by omega) (by omega)
  obtain ⟨q, hq⟩ := Int.gcd_dvd_left a b
  obtain ⟨r, hr⟩ := Int.gcd_dvd_right a b
  have hcop := Int.gcd_ediv_gcd_ediv_gcd hg
  generalize hG : Int.gcd a b = g at *
  clear hG
  have e1 : a.tdiv g = q := by rw [hq]; exact Int.mul_tdiv_cancel_left q (by omega)
  have e2 : b / (g : Int) = r := by rw [hr]; exact Int.mul_ediv_cancel_left r (by omega)
  have e3 : a / (g : Int) = q := by rw [hq]; exact Int.mul_ediv_cancel_left q (by omega)
  rw [e2, e3] at hcop
  have hr1 : 1 ≤ r := by
    rcases Int.lt_or_le r 1 with h | h
    · have := Int.mul_nonpos_of_nonneg_of_nonpos (show 0 ≤ (g : Int) by omega) (show r ≤ 0 by omega); omega
    · exact h
  have hr2 : r ≤ 1000000000 := by
    rw [← e2]; exact Int.le_trans (Int.ediv_le_self _ (by omega)) hb.2
  have hq2 := Wm.tdiv_bound a g 1000000000 (by omega)
  have c2 := hide (inverse_cop q r hr1 hr2 hcop)
  have hiv := inv_is w q r hr1 hr2 hcop
  obtain ⟨hx, hxd⟩ := hiv
  have hdv : b ∣ Wm.inv q r * a - (g : Int) := by
    rw [hq, hr, show Wm.inv q r * ((g : Int) * q) - (g : Int) = (g : Int) * (Wm.inv q r * q - 1) by rw [Int.mul_sub, Int.mul_left_comm]; simp]
    exact Int.mul_dvd_mul_left _ hxd
  have HD := hide hdv
  clear hdv hxd
  generalize Wm.inv q r = x at *
  rw [e1] at hq2
  have hm1 := Wm.mul_bound x a 1000000000 1000000000 (by omega) (by omega)
  have hm2 := Wm.tdiv_bound (g - x * a) b 2000000000000000000 (by omega)
  have HE2 := hide e2
  clear e3 hcop hq hr
  have z1 : (b == 0) = false := by rw [beq_eq_false_iff_ne]; omega
  go_enter Tryz.func31, Tryz.ntmps31
  go_wp2_with fail
  refine (unhide c1 _).mono ?_
  rintro e w' ⟨rfl, n, rfl⟩
  go_wp2_with fail
  go_quiet ((first | (go_at_call 47; exact quiet_in (unhide c2)) | (go_at_call 47; exact quiet_in_add (unhide c2))))
  go_wp2
  go_quiet (fail)
  go_wp2
  refine bodyPost_ret (results_tmp4 rfl _ _ _) rfl ?_
  exact ⟨⟨x, _, rfl, by rw [unhide HE2]; exact hx, unhide HD⟩, World.drewN_thrice _ _ _ _⟩

end Go.Proofs.YtpenkbhljkmliaaGreatDoor

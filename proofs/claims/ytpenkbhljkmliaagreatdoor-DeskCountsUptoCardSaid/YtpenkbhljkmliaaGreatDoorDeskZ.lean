/-
  The contract of euclid.Bezout at two naturals: its answer as a function.
-/
import Derived.Test.YtpenkbhljkmliaaGreatDoorRest1
import Derived.Test.YtpenkbhljkmliaaGreatDoorDeskB
import Derived.Test.YtpenkbhljkmliaaGreatDoorSymbol1
import Derived.Test.YtpenkbhljkmliaaGreatDoorSymbol1
import Derived.Test.YtpenkbhljkmliaaGreatDoorHamD
set_option linter.unusedVariables false
set_option linter.unusedSimpArgs false
namespace Go.Proofs.YtpenkbhljkmliaaGreatDoor
open Go.RowKit Go.BigFrame

theorem bez_parts {a b : Nat} (hb : 0 < b) : 0 < Nat.gcd a b ∧ Int.gcd ((a / Nat.gcd a b : Nat) : Int) ((b / Nat.gcd a b : Nat) : Int) = 1 ∧ 1 ≤ b / Nat.gcd a b ∧ b / Nat.gcd a b ≤ b ∧ a / Nat.gcd a b ≤ a ∧ Nat.gcd a b * (a / Nat.gcd a b) = a ∧ Nat.gcd a b * (b / Nat.gcd a b) = b ∧ Nat.gcd a b ≤ b := by
  have hg : 0 < Nat.gcd a b := Nat.gcd_pos_of_pos_right a hb
  have h2 := Nat.mul_div_cancel' (Nat.gcd_dvd_right a b)
  have hle : Nat.gcd a b ≤ b := Nat.le_of_dvd hb (Nat.gcd_dvd_right a b)
  exact ⟨hg, (Int.gcd_natCast_natCast _ _).trans (Nat.coprime_div_gcd_div_gcd hg), Nat.div_pos hle hg, Nat.div_le_self _ _, Nat.div_le_self _ _, Nat.mul_div_cancel' (Nat.gcd_dvd_left a b), h2, hle⟩

theorem bez_small (a b : Nat) (ha : a ≤ 9999999) (hb : b ≤ 9999999) (w : World) : (-9223372036854775808 ≤ bezX a b ∧ bezX a b ≤ 9223372036854775807) ∧ (-9223372036854775808 ≤ bezY a b ∧ bezY a b ≤ 9223372036854775807) ∧ (Nat.gcd a b : Int) ≤ 9223372036854775807 := by
  by_cases h0 : b = 0
  · subst h0
    have hX : bezX a 0 = if a = 0 then 0 else 1 := by unfold bezX; rw [if_pos rfl]
    have hY : bezY a 0 = 0 := by unfold bezY; rw [if_pos rfl]
    rw [hX, hY, Nat.gcd_zero_right]
    split <;> omega
  · obtain ⟨hg, hcop, hr1, hr2, hq2, hqa, hrb, hgb⟩ := bez_parts (a := a) (b := b) (by omega)
    have hX : bezX a b = Wm.inv ((a / Nat.gcd a b : Nat) : Int) ((b / Nat.gcd a b : Nat) : Int) := by unfold bezX; rw [if_neg h0]
    have hY : bezY a b = ((Nat.gcd a b : Int) - bezX a b * a).tdiv b := by unfold bezY; rw [if_neg h0]
    obtain ⟨hx, -⟩ := inv_is w ((a / Nat.gcd a b : Nat) : Int) ((b / Nat.gcd a b : Nat) : Int) (by omega) (by omega) hcop
    rw [← hX] at hx
    have hm1 := Wm.mul_bound (bezX a b) a 10000000 10000000 (by omega) (by omega)
    have hm2 := Wm.tdiv_bound ((Nat.gcd a b : Int) - bezX a b * a) b 200000000000000 (by omega)
    rw [← hY] at hm2
    omega
set_option maxRecDepth 100000 in
set_option maxHeartbeats 1000000 in
theorem bezout_nat (a b : Nat) (ha : a ≤ 9999999) (hb : b ≤ 9999999) (w : World) :
    Calls Tryz.prog 31 #[.int .i64 (a : Int), .int .i64 (b : Int)] w fun e w' => e = .returned (.tuple #[.int .i64 (bezX a b), .int .i64 (bezY a b), .int .i64 (Nat.gcd a b : Int), .int .i64 0]) ∧ ∃ d, w' = w.drewN d := by
  have c1 := hide (fun w : World => Gcd_ok a b w (by omega) (by omega))
  rw [Int.gcd_natCast_natCast] at c1
  by_cases h0 : b = 0
  · subst h0
    have hX : bezX a 0 = if a = 0 then 0 else 1 := by unfold bezX; rw [if_pos rfl]
    have hY : bezY a 0 = 0 := by unfold bezY; rw [if_pos rfl]
    have hg : Nat.gcd a 0 = a := Nat.gcd_zero_right a
    rw [hg] at c1 ⊢
    rw [hX, hY]
    clear hX hY hg hb
    by_cases ha0 : a = 0
    · subst ha0
      rw [if_pos rfl]
      go_enter Tryz.func31, Tryz.ntmps31
      go_wp2_with fail
      refine (unhide c1 _).mono ?_
      rintro e w' ⟨rfl, n, rfl⟩
      go_wp2
      refine bodyPost_ret (results_tmp4 rfl _ _ _) rfl ?_
      exact ⟨rfl, _, rfl⟩
    · rw [if_neg ha0]
      have hp : (0 : Int) < (a : Int) := by omega
      clear ha0
      go_enter Tryz.func31, Tryz.ntmps31
      go_wp2_with fail
      refine (unhide c1 _).mono ?_
      rintro e w' ⟨rfl, n, rfl⟩
      go_wp2
      refine bodyPost_ret (results_tmp4 rfl _ _ _) rfl ?_
      exact ⟨rfl, _, rfl⟩
  · obtain ⟨hg, hcop, hr1, hr2, hq2, hqa, hrb, hgb⟩ := bez_parts (a := a) (b := b) (by omega)
    have hX : bezX a b = Wm.inv ((a / Nat.gcd a b : Nat) : Int) ((b / Nat.gcd a b : Nat) : Int) := by unfold bezX; rw [if_neg h0]
    have hY : bezY a b = ((Nat.gcd a b : Int) - bezX a b * a).tdiv b := by unfold bezY; rw [if_neg h0]
    have hY2 := hide hY
    rw [hX] at hY2 ⊢
    rw [unhide hY2]
    clear hY hX hY2
    have c2 := hide (inverse_cop ((a / Nat.gcd a b : Nat) : Int) ((b / Nat.gcd a b : Nat) : Int) (by omega) (by omega) hcop)
    obtain ⟨hx, -⟩ := inv_is w ((a / Nat.gcd a b : Nat) : Int) ((b / Nat.gcd a b : Nat) : Int) (by omega) (by omega) hcop
    have e1 : (a : Int).tdiv (Nat.gcd a b : Int) = ((a / Nat.gcd a b : Nat) : Int) := rfl
    have e2 : (b : Int).tdiv (Nat.gcd a b : Int) = ((b / Nat.gcd a b : Nat) : Int) := rfl
    have e3 : (a : Int) / (Nat.gcd a b : Int) = ((a / Nat.gcd a b : Nat) : Int) := rfl
    have e4 : (b : Int) / (Nat.gcd a b : Int) = ((b / Nat.gcd a b : Nat) : Int) := rfl
    generalize Wm.inv ((a / Nat.gcd a b : Nat) : Int) ((b / Nat.gcd a b : Nat) : Int) = x at *
    generalize a / Nat.gcd a b = q at *
    generalize b / Nat.gcd a b = r at *
    generalize Nat.gcd a b = g at *
    have hm1 := Wm.mul_bound x a 10000000 10000000 (by omega) (by omega)
    have hm2 := Wm.tdiv_bound ((g : Int) - x * a) b 200000000000000 (by omega)
    have z1 : ((b : Int) == 0) = false := by rw [beq_eq_false_iff_ne]; omega
    have z0 : ¬ (b : Int) = 0 := by omega
    have z0' : ¬ b = 0 := h0
    have zg : ¬ (g : Int) = 0 := by omega
    have zg' : ¬ g = 0 := by omega
    have b1 : 0 < (b : Int) := by omega
    have n1 : IntKind.i64.wrap (-(b : Int)) = -(b : Int) := IntWalk.i64_in _ (by omega)
    have n2 : ¬ (b : Int) < -(b : Int) := by omega
    have n3 : IntKind.i64.wrap (q : Int) = (q : Int) := IntWalk.i64_in _ (by omega)
    have n4 : IntKind.i64.wrap (r : Int) = (r : Int) := IntWalk.i64_in _ (by omega)
    have n5 : IntKind.i64.wrap (x * (a : Int)) = x * (a : Int) := IntWalk.i64_in _ (by omega)
    have n6 : IntKind.i64.wrap ((g : Int) - x * (a : Int)) = (g : Int) - x * (a : Int) := IntWalk.i64_in _ (by omega)
    have n7 : IntKind.i64.wrap (((g : Int) - x * (a : Int)).tdiv b) = ((g : Int) - x * (a : Int)).tdiv b := IntWalk.i64_in _ (by omega)
    clear hcop hqa hrb hgb hr2 hq2
    go_enter Tryz.func31, Tryz.ntmps31
    go_wp2_with fail
    refine (unhide c1 _).mono ?_
    rintro e w' ⟨rfl, n, rfl⟩
    go_wp2_with fail
    go_quiet ((first | (go_at_call 47; with_reducible exact quiet_in (unhide c2)) | (go_at_call 47; with_reducible exact quiet_in_add (unhide c2))))
    go_wp2
    go_quiet (fail)
    go_wp2
    refine bodyPost_ret (results_tmp4 rfl _ _ _) rfl ?_
    exact ⟨rfl, World.drewN_thrice _ _ _ _⟩
/-! ### Root -/
/-- What square.Root answers: a number and an error. -/
noncomputable def rootV (a p : Nat) : Nat × Int := @ite _ (Wm.Prime p ∧ p ≤ 1000000) (Classical.propDecidable _) (match rootF a p with | some x => (x, 0) | none => (0, 4)) (0, 1)
theorem rootF_yes {a p x : Nat} (hx : x < p) (h : x * x % p = a % p) (hm : ∀ y, y < x → y * y % p ≠ a % p) : rootF a p = some x := by
  unfold rootF
  rw [List.find?_range_eq_some]
  exact ⟨by simpa using h, List.mem_range.2 hx, fun j hj => by simpa using hm j hj⟩
theorem rootF_none {a p : Nat} (hm : ∀ y, y < p → y * y % p ≠ a % p) : rootF a p = none := by
  unfold rootF
  rw [List.find?_range_eq_none]
  exact fun j hj => by simpa using hm j hj
theorem rootV_T (a p : Nat) : rootT a p = (if (rootV a p).2 = 0 then .ok (numsB [((rootV a p).1 : Int)]) else .error (rootV a p).2) ∧ (rootV a p).1 ≤ 1000000 := by
  unfold rootT rootV
  by_cases h : Wm.Prime p ∧ p ≤ 1000000
  · rw [if_pos h, if_pos h]
    cases hF : rootF a p with
    | none => exact ⟨rfl, by show 0 ≤ 1000000; omega⟩
    | some x =>
      refine ⟨rfl, ?_⟩
      show x ≤ 1000000
      unfold rootF at hF
      rw [List.find?_range_eq_some] at hF
      have h1 := List.mem_range.1 hF.2.1
      have h2 := h.2
      omega
  · rw [if_neg h, if_neg h]
    exact ⟨rfl, by show 0 ≤ 1000000; omega⟩
set_option maxRecDepth 100000 in
set_option maxHeartbeats 1000000 in
theorem root_any (a p : Nat) (hp7 : p ≤ 9999999) (w : World) : Calls Tryz.prog 34 #[.int .i64 (a : Int), .int .i64 (p : Int)] w fun e w' => e = .returned (.tuple #[.int .i64 ((rootV a p).1 : Int), .int .i64 (rootV a p).2]) ∧ Ext w w' := by
  by_cases h : Wm.Prime p ∧ p ≤ 1000000
  · have cst : ((a : Int) % (p : Int)) = ((a % p : Nat) : Int) := rfl
    have hV : rootV a p = match rootF a p with | some x => (x, 0) | none => (0, 4) := by unfold rootV; rw [if_pos h]
    refine (Root_ok a p w h.1 h.2).mono fun e w' ⟨hr, E⟩ => ⟨?_, E⟩
    rw [hV]
    rcases hr with ⟨x, hx, h1, h2, rfl⟩ | ⟨h2, rfl⟩
    · rw [cst] at h1
      rw [rootF_yes hx (by omega) fun y hy he => h2 y hy (by rw [cst, he])]
    · rw [rootF_none fun y hy he => h2 y hy (by rw [cst, he])]
      rfl
  · have hV : rootV a p = (0, 1) := by unfold rootV; rw [if_neg h]
    rw [hV]
    clear hV
    by_cases h6 : p ≤ 1000000
    · have hi : Wm.isp p = false := Wm.isp_false fun hp => h ⟨hp, h6⟩
      have C1 := hide (fun w : World => Is_ok p h6 w)
      rw [hi] at C1
      clear h hi
      go_enter Tryz.func34, Tryz.ntmps34
      go_wp2_with fail
      refine (unhide C1 _).mono ?_
      rintro e w' ⟨rfl, rfl⟩
      go_wp2
      go_ret2
      exact ⟨rfl, Ext.refl _⟩
    · have C1 := hide (fun w : World => Is_bad (p : Int) (.inr (by omega)) w)
      clear h
      go_enter Tryz.func34, Tryz.ntmps34
      go_wp2_with fail
      refine (unhide C1 _).mono ?_
      rintro e w' ⟨rfl, rfl⟩
      go_wp2
      go_ret2
      exact ⟨rfl, Ext.refl _⟩
/-! ### hamming.Put of too much -/
theorem hPut_bad (d : Nat) (hd : 2048 ≤ d) (hd2 : d < 65536) (w : World) :
    Calls Tryz.prog 35 #[.int .u16 (d : Int)] w fun e w' => e = .returned (.tuple #[.int .u16 0, .int .i64 1]) ∧ w' = w := by
  have h1 : (2048 : Int) ≤ (d : Int) := by omega
  go_enter Tryz.func35, Tryz.ntmps35
  go_wp2
  go_ret2
  exact ⟨rfl, rfl⟩
end Go.Proofs.YtpenkbhljkmliaaGreatDoor

/-
  The dual's dimension, the dual of the dual, MACWILLIAMS for the lists that the program makes; the contracts of ChooseOf, Ones and sum.
-/
import Derived.Test.YtbejhfafipedmaaLin9
import Derived.Test.YtbejhfafipedmaaLinBdW
set_option linter.unusedVariables false
set_option linter.unusedSimpArgs false
namespace Wm
theorem du_perm (N : Nat) (l : List Nat) : (wl (du N l)).Perm (du N l) := perm_of_mem (lt_nodup (wl_sorted _)) (du_nodup N l) fun x => by rw [wl_mem, du_ws]
theorem du_lt {N : Nat} {l : List Nat} : ∀ x ∈ du N l, x < 2 ^ N := fun x hx => (du_mem.1 hx).1
theorem du_bl (N : Nat) (l : List Nat) : du N (bl l) = du N l := du_congr (bl_ws l)
theorem dual_dim {N : Nat} {l : List Nat} (hl : ∀ x ∈ l, x < 2 ^ N) : (bl (du N l)).length + (bl l).length = N := by
  have h1 := du_len (n := N) (bl_red l) (bl_lt hl)
  rw [du_bl, ← (du_perm N l).length_eq, wl_len, ← Nat.pow_add] at h1
  rcases Nat.lt_trichotomy ((bl (du N l)).length + (bl l).length) N with h | h | h
  · have := Nat.pow_lt_pow_right (a := 2) (by omega) h; omega
  · exact h
  · have := Nat.pow_lt_pow_right (a := 2) (by omega) h; omega
theorem dual_size {N : Nat} {l : List Nat} (hl : ∀ x ∈ l, x < 2 ^ N) : (du N (du N l)).length = 2 ^ (bl l).length := by
  have h := dual_dim hl
  have h2 := dual_dim (N := N) (l := du N l) du_lt
  rw [← (du_perm N (du N l)).length_eq, wl_len]
  congr 1
  omega
theorem dual_back {N : Nat} {l : List Nat} (hl : ∀ x ∈ l, x < 2 ^ N) : bl (du N (bl (du N l))) = bl l := by
  rw [du_bl]
  refine bl_congr fun x => ?_
  rw [du_ws]
  have hp : (wl l).Perm (du N (du N l)) := perm_sub (lt_nodup (wl_sorted l)) (du_nodup _ _) (fun y hy => du_back hl y ((wl_mem l y).1 hy)) (by rw [dual_size hl, wl_len]; exact Nat.le_refl _)
  rw [← hp.mem_iff, wl_mem]
theorem dual_even {N : Nat} (hN : N ≤ 16) {l : List Nat} (hl : ∀ x ∈ l, x < 2 ^ N) {x y : Nat} (hx : x ∈ wl (bl (du N l))) (hy : y ∈ bl l) : ¬ ones (x &&& y) 16 % 2 = 1 := by
  rw [wl_bl, wl_mem, du_ws] at hx
  have h := perp_ws (n := N) (du_mem.1 hx).2 y ((bl_ws l y).1 (ws_gen _ y hy))
  have hb := bl_lt hl y hy
  rw [ones_16 hN (Nat.lt_of_le_of_lt Nat.and_le_right hb), Nat.and_comm]
  intro h2
  unfold chi at h
  rw [if_pos h2] at h
  cases h
theorem chk_dual {N : Nat} {l : List Nat} (h1 : 1 ≤ N) (h12 : N ≤ 12) (hl : ∀ x ∈ l, x < 2 ^ N) (h : N ≤ (bl l).length + 6) : chkL (N : Int) (bl (du N l)) = 0 :=
  chk_of h1 h12 (by have := dual_dim hl; omega) (bl_lt du_lt)
theorem sI_range (f : Nat → Int) (k : Nat) : sI (List.range (k + 1)) f = sI (List.range k) f + f k := by
  rw [List.range_succ, sI_append, sI_cons, sI_nil, Int.add_zero]
theorem sum_wts {N : Nat} (hN : N ≤ 16) {l : List Nat} (hl : ∀ x ∈ l, x < 2 ^ N) : sI (List.range (N + 1)) (fun i => (wcnt (wl l) i : Int)) = ((wl l).length : Int) := by
  have h := sum_by (n := N) (fun _ => (1 : Int)) (wl l) fun x hx => ones_lt (wl_lt hl x hx) hN
  rw [sI_const, Int.mul_one] at h
  rw [← h]
  exact sI_congr fun i _ => by unfold wcnt; rw [Int.mul_one]
/-- MACWILLIAMS. -/
theorem williams_wts {N : Nat} (hN : N ≤ 12) {l : List Nat} (hl : ∀ x ∈ l, x < 2 ^ N) {j : Nat} (hj : j ≤ 13) :
    ((wl l).length : Int) * (wcnt (wl (bl (du N l))) j : Int) = sI (List.range (N + 1)) fun i => (wcnt (wl l) i : Int) * kr N i j := by
  have h1 := sum_by (n := N) (fun i => kr N i j) (wl l) fun x hx => ones_lt (wl_lt hl x hx) (by omega)
  have h2 : sI (wl l) (fun x => kr N (ones x 16) j) = sI (ws (bl l)) fun x => kr N (ones x N) j := by
    rw [sI_perm (wl_perm l)]
    refine sI_congr fun x hx => ?_
    rw [ones_16 (n := N) (by omega) (ws_lt hl x ((bl_ws l x).1 hx))]
  have h3 := williams hN (bl l) hj
  have h4 : ((du N (bl l)).filter fun y => decide (ones y N = j)).length = wcnt (wl (bl (du N l))) j := by
    unfold wcnt
    rw [wl_bl, du_bl, ((du_perm N l).filter _).length_eq]
    congr 1
    exact List.filter_congr fun y hy => by rw [ones_16 (n := N) (by omega) (du_lt y hy)]
  have e : sI (List.range (N + 1)) (fun i => (wcnt (wl l) i : Int) * kr N i j) = sI (wl l) (fun x => kr N (ones x 16) j) := h1
  rw [e, h2, h3, h4, wl_len, Int.mul_comm]
theorem krS_le (n i j : Nat) : ∀ s, -((sumTo (fun t => C i t * C (n - i) (j - t)) s : Nat) : Int) ≤ krS n i j s ∧ krS n i j s ≤ ((sumTo (fun t => C i t * C (n - i) (j - t)) s : Nat) : Int)
  | 0 => by simp [krS, sumTo]
  | s + 1 => by
    have ih := krS_le n i j s
    simp only [krS, sumTo]
    generalize C i s * C (n - i) (j - s) = q
    split <;> push_cast <;> omega
theorem krS_small {n i j s : Nat} (hn : n ≤ 12) (hi : i ≤ n) (hs : s ≤ j + 1) : -4096 ≤ krS n i j s ∧ krS n i j s ≤ 4096 := by
  have h := krS_le n i j s
  have h1 := sumTo_mono (f := fun t => C i t * C (n - i) (j - t)) hs
  rw [vander i (n - i) j] at h1
  have h2 := C_le (i + (n - i)) j
  have h3 : 2 ^ (i + (n - i)) ≤ 2 ^ 12 := Nat.pow_le_pow_right (by omega) (by omega)
  omega
theorem term_small {n i j s : Nat} (hn : n ≤ 12) (hi : i ≤ n) (hs : s ≤ j) : C i s * C (n - i) (j - s) ≤ 4096 := by
  have h1 := sumTo_mono (f := fun t => C i t * C (n - i) (j - t)) (show s + 1 ≤ j + 1 by omega)
  rw [vander i (n - i) j] at h1
  have h2 := C_le (i + (n - i)) j
  have h3 : 2 ^ (i + (n - i)) ≤ 2 ^ 12 := Nat.pow_le_pow_right (by omega) (by omega)
  simp only [sumTo] at h1
  omega
theorem part_small {f : Nat → Int} {b : Int} (hb : 0 ≤ b) : ∀ k, (∀ i, i < k → -b ≤ f i ∧ f i ≤ b) → -(b * (k : Int)) ≤ sI (List.range k) f ∧ sI (List.range k) f ≤ b * (k : Int)
  | 0, _ => by simp [sI]
  | k + 1, h => by
    have ih := part_small hb k fun i hi => h i (by omega)
    have h2 := h k (by omega)
    rw [sI_range]
    push_cast
    rw [Int.mul_add, Int.mul_one]
    omega
end Wm
namespace Go.Proofs.Ytbejhfafipedmaa
open Go.RowKit Go.BigFrame Go.Sort

set_option maxRecDepth 100000 in
set_option maxHeartbeats 1000000 in
theorem choose_ok (n k : Nat) (hn : n ≤ 12) (hk : k ≤ 12) (w : World) :
    Calls Try.prog 25 #[.int .i64 n, .int .i64 k] w fun e w' => e = .returned (.int .i64 ((Wm.C n k : Nat) : Int)) ∧ w' = w := by
  by_cases hkn : n < k
  · have hkI : decide ((n : Int) < (k : Int)) = true := decide_eq_true (by omega)
    have hk0 : ¬ (k : Int) < 0 := by omega
    have e := Wm.C_gt n k hkn
    rw [e]
    go_enter Try.func25, Try.ntmps25
    go_wp2
    go_ret
    exact ⟨rfl, rfl⟩
  · have hkI : ¬ (n : Int) < (k : Int) := by omega
    have hk0 : ¬ (k : Int) < 0 := by omega
    obtain ⟨r, hr⟩ : ∃ r, r = n - k := ⟨_, rfl⟩
    have hrI : (n : Int) - (k : Int) = (r : Int) := by omega
    have hrn : r ≤ 12 := by omega
    by_cases hkr : k ≤ r
    · have hkrI : ((k : Int)) ≤ (r : Int) := by omega
      have HM := hide (show Wm.C n k = Wm.C n k from rfl)
      have hm6 : k ≤ 6 := by omega
      have hmn : k ≤ n := by omega
      obtain ⟨m, hm⟩ : ∃ m, m = k := ⟨_, rfl⟩
      have HMM := hide hm
      have hmI : min (k : Int) (r : Int) = (m : Int) := by omega
      have hm6' : m ≤ 6 := by omega
      have hmn' : m ≤ n := by omega
      rw [unhide HM, ← unhide HMM]
      clear hr hm
      go_enter Try.func25, Try.ntmps25
      go_wp2
      go_loopw [5, 6] (fun a i wr => ∃ j : Nat, j ≤ m ∧ i = .int .i64 ((j : Int) + 1) ∧ a = .int .i64 ((Wm.C n j : Nat) : Int) ∧ wr = w) (fun _ i _ => m + 1 - (intOf i).toNat)
      case atStart => exact ⟨0, Nat.zero_le _, by go_num, by rw [Wm.C_zero]; rfl, rfl⟩
      case round =>
        obtain ⟨j, hj, rfl, rfl, hw⟩ := hrel
        subst hw
        by_cases hlt : j < m
        · obtain ⟨n1, n2, n3⟩ := Wm.way_step (n := n) (i := j) hn (by omega) (by omega)
          have HC := hide n1
          have hC2 : Wm.C n (j + 1) ≤ 12000 := by
            rw [← n1]
            exact Nat.le_trans (Nat.div_le_self _ _) (Nat.le_trans (Nat.mul_le_mul n2 (show n - j ≤ 12 by omega)) (by omega))
          generalize hCC : Wm.C n (j + 1) = z at *
          have HCC := hide hCC
          generalize Wm.C n j = y at *
          obtain ⟨a, ha⟩ : ∃ a, a = n - j := ⟨_, rfl⟩
          rw [← ha] at HC
          have haI : (n : Int) - ((j : Int) + 1) + 1 = (a : Int) := by omega
          have hal : a ≤ 12 := by omega
          obtain ⟨pr, hpr⟩ : ∃ pr, pr = y * a := ⟨_, rfl⟩
          rw [← hpr] at HC
          have hprI : (y : Int) * (a : Int) = (pr : Int) := by rw [hpr, Int.natCast_mul]
          have hprl : pr ≤ 12000 := by rw [hpr]; exact Nat.le_trans (Nat.mul_le_mul n2 hal) (by omega)
          have hq : (pr : Int).tdiv ((j : Int) + 1) = (z : Int) := by
            rw [show (j : Int) + 1 = ((j + 1 : Nat) : Int) by omega, ← unhide HC]; rfl
          have hq2 : (pr : Int) / ((j : Int) + 1) = (z : Int) := by
            rw [show (j : Int) + 1 = ((j + 1 : Nat) : Int) by omega, ← unhide HC]; rfl
          have hk1 : ¬ (j : Int) + 1 = 0 := by omega
          have hk1B : ((j : Int) + 1 == 0) = false := by rw [beq_eq_false_iff_ne]; exact hk1
          have hltI : (j : Int) + 1 ≤ (m : Int) := by omega
          have hltk : (j : Int) + 1 ≤ (k : Int) := by have := unhide HMM; omega
          have hltr : (j : Int) + 1 ≤ (r : Int) := by have := unhide HMM; omega
          clear n1 hCC ha hpr
          go_wp2
          all_goals
            go_roundw
            case rel => exact ⟨j + 1, by omega, by go_num, by rw [unhide HCC], trivial⟩
            case measure => simp [intOf]; omega
        · obtain rfl : j = m := by omega
          have hltI : ¬ (j : Int) + 1 ≤ (j : Int) := by omega
          go_wp2
          all_goals
            go_ret
            exact ⟨rfl, rfl⟩
    · have hkrI : ¬ (k : Int) ≤ (r : Int) := by omega
      have HM := hide (show Wm.C n k = Wm.C n r by rw [hr, Wm.C_symm n k (by omega)])
      have hm6 : r ≤ 6 := by omega
      have hmn : r ≤ n := by omega
      obtain ⟨m, hm⟩ : ∃ m, m = r := ⟨_, rfl⟩
      have HMM := hide hm
      have hmI : min (k : Int) (r : Int) = (m : Int) := by omega
      have hm6' : m ≤ 6 := by omega
      have hmn' : m ≤ n := by omega
      rw [unhide HM, ← unhide HMM]
      clear hr hm
      go_enter Try.func25, Try.ntmps25
      go_wp2
      go_loopw [5, 6] (fun a i wr => ∃ j : Nat, j ≤ m ∧ i = .int .i64 ((j : Int) + 1) ∧ a = .int .i64 ((Wm.C n j : Nat) : Int) ∧ wr = w) (fun _ i _ => m + 1 - (intOf i).toNat)
      case atStart => exact ⟨0, Nat.zero_le _, by go_num, by rw [Wm.C_zero]; rfl, rfl⟩
      case round =>
        obtain ⟨j, hj, rfl, rfl, hw⟩ := hrel
        subst hw
        by_cases hlt : j < m
        · obtain ⟨n1, n2, n3⟩ := Wm.way_step (n := n) (i := j) hn (by omega) (by omega)
          have HC := hide n1
          have hC2 : Wm.C n (j + 1) ≤ 12000 := by
            rw [← n1]
            exact Nat.le_trans (Nat.div_le_self _ _) (Nat.le_trans (Nat.mul_le_mul n2 (show n - j ≤ 12 by omega)) (by omega))
          generalize hCC : Wm.C n (j + 1) = z at *
          have HCC := hide hCC
          generalize Wm.C n j = y at *
          obtain ⟨a, ha⟩ : ∃ a, a = n - j := ⟨_, rfl⟩
          rw [← ha] at HC
          have haI : (n : Int) - ((j : Int) + 1) + 1 = (a : Int) := by omega
          have hal : a ≤ 12 := by omega
          obtain ⟨pr, hpr⟩ : ∃ pr, pr = y * a := ⟨_, rfl⟩
          rw [← hpr] at HC
          have hprI : (y : Int) * (a : Int) = (pr : Int) := by rw [hpr, Int.natCast_mul]
          have hprl : pr ≤ 12000 := by rw [hpr]; exact Nat.le_trans (Nat.mul_le_mul n2 hal) (by omega)
          have hq : (pr : Int).tdiv ((j : Int) + 1) = (z : Int) := by
            rw [show (j : Int) + 1 = ((j + 1 : Nat) : Int) by omega, ← unhide HC]; rfl
          have hq2 : (pr : Int) / ((j : Int) + 1) = (z : Int) := by
            rw [show (j : Int) + 1 = ((j + 1 : Nat) : Int) by omega, ← unhide HC]; rfl
          have hk1 : ¬ (j : Int) + 1 = 0 := by omega
          have hk1B : ((j : Int) + 1 == 0) = false := by rw [beq_eq_false_iff_ne]; exact hk1
          have hltI : (j : Int) + 1 ≤ (m : Int) := by omega
          have hltk : (j : Int) + 1 ≤ (k : Int) := by have := unhide HMM; omega
          have hltr : (j : Int) + 1 ≤ (r : Int) := by have := unhide HMM; omega
          clear n1 hCC ha hpr
          go_wp2
          all_goals
            go_roundw
            case rel => exact ⟨j + 1, by omega, by go_num, by rw [unhide HCC], trivial⟩
            case measure => simp [intOf]; omega
        · obtain rfl : j = m := by omega
          have hltI : ¬ (j : Int) + 1 ≤ (j : Int) := by omega
          go_wp2
          all_goals
            go_ret
            exact ⟨rfl, rfl⟩
end Go.Proofs.Ytbejhfafipedmaa

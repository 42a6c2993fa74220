/-
  The contracts of package prime: Is, Next.
-/
import Derived.Test.YtahchidghfeofaaBase
import Derived.Test.YtahchidghfeofaaPrime0
set_option linter.unusedVariables false
set_option linter.unusedSimpArgs false
namespace Go.Proofs.Ytahchidghfeofaa
open Go.RowKit

theorem tmod_nat (a b : Nat) : (a : Int).tmod (b : Int) = ((a % b : Nat) : Int) := rfl

set_option maxHeartbeats 400000 in
theorem is_any (n : Nat) (hn : n ≤ 1000000) :
    ∀ w : World, Calls Try.prog 33 #[.int .i64 n] w fun e w' => e = .returned (.bool (Wm.isp n)) ∧ w' = w := fun w => by
  go_enter Try.func33, Try.ntmps33
  go_wp2
  go_loop [3] (fun i => ∃ d : Nat, 2 ≤ d ∧ d ≤ 1002 ∧ i = .int .i64 d ∧ Hid (∀ e, 2 ≤ e → e < d → ¬ e ∣ n)) (fun i => 2000 - (intOf i).toNat)
  case atStart => exact ⟨2, by omega, by omega, rfl, hide (fun e h1 h2 => absurd h2 (by omega))⟩
  case round =>
    obtain ⟨d, h2, h3, rfl, hd⟩ := hrel
    have hdd : ((d * d : Nat) : Int) = (d : Int) * (d : Int) := Int.natCast_mul d d
    have hb : d * d ≤ 1002 * 1002 := Nat.mul_le_mul h3 h3
    have hb1 : (d : Int) * (d : Int) ≤ 1004004 := by omega
    have hb0 : 0 ≤ (d : Int) * (d : Int) := by omega
    by_cases hlt : n < d * d
    · have hlt' : (n : Int) < (d : Int) * (d : Int) := by omega
      by_cases h1 : 1 < n
      · have hp := hide (Wm.isp_true (Wm.prime_of_trial h1 hlt (unhide hd)))
        clear hlt hdd hb
        go_wp2
        go_ret
        exact ⟨ret_boolv (by rw [unhide hp]; simp; omega), rfl⟩
      · have hp := hide (Wm.isp_false (n := n) (fun h => h1 h.1))
        clear hlt hdd hb
        go_wp2
        go_ret
        exact ⟨ret_boolv (by rw [unhide hp]; simp; omega), rfl⟩
    · have hlt' : (d : Int) * (d : Int) ≤ (n : Int) := by omega
      have hdn : d < n := by
        have : d * 2 ≤ d * d := Nat.mul_le_mul_left d h2
        omega
      have hd1 : d ≤ 1001 := by
        rcases Nat.lt_or_ge 1001 d with h | h
        · have : 1002 * 1002 ≤ d * d := Nat.mul_le_mul h h
          omega
        · exact h
      clear hlt hdd hb
      by_cases hm : n % d = 0
      · have hp := hide (Wm.isp_false (Wm.not_prime_of_dvd h2 hdn (Nat.dvd_of_mod_eq_zero hm)))
        have hm' : ((n : Int) % (d : Int) == 0) = true := by rw [beq_iff_eq]; omega
        clear hm
        go_wp2
        go_ret
        exact ⟨ret_boolv (unhide hp).symm, rfl⟩
      · have hm' : ((n : Int) % (d : Int) == 0) = false := by rw [beq_eq_false_iff_ne]; omega
        have hnd := hide (fun h => hm (Nat.mod_eq_zero_of_dvd h) : ¬ d ∣ n)
        clear hm
        go_wp2
        go_round
        case rel => exact ⟨d + 1, by omega, by omega, by go_num, hide (fun e h4 h5 => by
          by_cases h : e < d
          · exact unhide hd e h4 h
          · obtain rfl : e = d := by omega
            exact unhide hnd)⟩
        case measure => simp [intOf]; omega

theorem Is_ok (n : Nat) (hn : n ≤ 1000000) (w : World) :
    Calls Try.prog 43 #[.int .i64 n] w fun e w' => e = .returned (.tuple #[.bool (Wm.isp n), .int .i64 0]) ∧ w' = w := by
  have c1 := hide (is_any n hn)
  go_enter Try.func43, Try.ntmps43
  go_wp2_with fail
  refine (unhide c1 w).mono ?_
  rintro e w' ⟨rfl, rfl⟩
  go_wp2
  go_ret2
  exact ⟨rfl, rfl⟩

theorem Is_bad (n : Int) (hn : n < 0 ∨ 1000000 < n) (w : World) :
    Calls Try.prog 43 #[.int .i64 n] w fun e w' => e = .returned (.tuple #[.bool false, .int .i64 1]) ∧ w' = w := by
  by_cases h : n < 0
  · go_enter Try.func43, Try.ntmps43
    go_wp2
    go_ret2
    exact ⟨rfl, rfl⟩
  · have h' : 1000000 < n := by omega
    clear hn
    go_enter Try.func43, Try.ntmps43
    go_wp2
    go_ret2
    exact ⟨rfl, rfl⟩

/-- The first prime from n on. -/
def IsNext (n p : Nat) : Prop := Wm.Prime p ∧ n ≤ p ∧ ∀ k, n ≤ k → k < p → ¬ Wm.Prime k

set_option maxHeartbeats 400000 in
theorem Next_ok (n p : Nat) (hp : IsNext n p) (h6 : p ≤ 1000000) (w : World) :
    Calls Try.prog 19 #[.int .i64 n] w fun e w' => e = .returned (.tuple #[.int .i64 p, .int .i64 0]) ∧ w' = w := by
  obtain ⟨hpr, hnp, hno⟩ := hp
  have HP := hide (Wm.isp_true hpr)
  have HN := hide hno
  clear hno
  go_enter Try.func19, Try.ntmps19
  go_wp2
  go_loop [0] (fun i => ∃ k : Nat, n ≤ k ∧ k ≤ p ∧ i = .int .i64 k) (fun i => p - (intOf i).toNat)
  case atStart => exact ⟨n, by omega, hnp, rfl⟩
  case round =>
    obtain ⟨k, h1, h2, rfl⟩ := hrel
    by_cases h : k < p
    · have hk := Wm.isp_false (unhide HN k h1 h)
      have c1 := is_any k (by omega)
      rw [hk] at c1
      have C1 := hide c1
      clear c1 hk
      go_wp2_with fail
      refine (unhide C1 _).mono ?_
      rintro e w' ⟨rfl, rfl⟩
      go_wp2
      go_round
      case rel => exact ⟨k + 1, by omega, by omega, by go_num⟩
      case measure => simp [intOf]; omega
    · obtain rfl : k = p := by omega
      have c1 := is_any k (by omega)
      rw [unhide HP] at c1
      have C1 := hide c1
      clear c1
      go_wp2_with fail
      refine (unhide C1 _).mono ?_
      rintro e w' ⟨rfl, rfl⟩
      go_wp2
      go_ret2
      exact ⟨rfl, rfl⟩

theorem next_exists {n q : Nat} (hq : Wm.Prime q) (hn : n ≤ q) : ∃ p, IsNext n p ∧ p ≤ q := by
  have h : ∀ d, ∀ m, m + d = q → (∀ k, n ≤ k → k < m → ¬ Wm.Prime k) → n ≤ m → ∃ p, IsNext n p ∧ p ≤ q := fun d => by
    induction d with
    | zero => intro m hm hk hnm; obtain rfl : m = q := by omega
              exact ⟨m, ⟨hq, hnm, hk⟩, Nat.le_refl _⟩
    | succ d ih =>
      intro m hm hk hnm
      by_cases hp : Wm.Prime m
      · exact ⟨m, ⟨hp, hnm, hk⟩, by omega⟩
      · exact ih (m + 1) (by omega) (fun k h1 h2 => by
          by_cases h : k < m
          · exact hk k h1 h
          · obtain rfl : k = m := by omega
            exact hp) (by omega)
  exact h (q - n) n (by omega) (fun k h1 h2 => absurd h2 (by omega)) (Nat.le_refl _)
end Go.Proofs.Ytahchidghfeofaa

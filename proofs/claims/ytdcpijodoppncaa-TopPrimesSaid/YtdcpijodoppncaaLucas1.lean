/-
  The contracts of the package binom, modulo a prime.
-/
import Derived.Test.YtdcpijodoppncaaLucas0
import Derived.Test.YtdcpijodoppncaaPrime1
import Derived.Test.YtdcpijodoppncaaRest1
import Derived.Test.YtdcpijodoppncaaArith1
import Derived.BigRegion
import Derived.Deep.Cut
import Derived.Deep.CutRange
set_option linter.unusedVariables false
set_option linter.unusedSimpArgs false
namespace Wm
theorem C_lt_prime {p n k : Nat} (hp : Prime p) (hn : n < p) : C n k % p = C n k % p := rfl
theorem luc_start {p n k : Nat} (h : 1 < p) : luc p n k % p = luc p n k := by
  rw [luc]
  split
  · exact Nat.mod_mod _ _
  · exact Nat.mod_mod _ _
theorem luc_round {p n k o : Nat} (hp : 1 < p) (hn : 0 < n) : o * luc p n k % p = (o * (C (n % p) (k % p) % p) % p) * luc p (n / p) (k / p) % p := by
  rw [luc_step hp hn]
  generalize luc p (n / p) (k / p) = L
  generalize C (n % p) (k % p) = c
  rw [Nat.mul_mod_mod, Nat.mod_mul_mod, show o * (c % p) * L = c % p * (o * L) by ac_rfl, Nat.mod_mul_mod, show o * (c * L) = c * (o * L) by ac_rfl]
end Wm
namespace Go.Proofs.Ytdcpijodoppncaa
open Go.RowKit Go.BigFrame

theorem num_eqL {K : IntKind} {a b : Int} (h : a = b) : Value.int K a = Value.int K b := by rw [h]

def goodC (n k p : Int) : Prop := 0 ≤ n ∧ n ≤ 1000000000 ∧ 0 ≤ k ∧ k ≤ n ∧ 0 ≤ p ∧ p ≤ 1000 ∧ Wm.Prime p.toNat

set_option maxRecDepth 100000 in
set_option maxHeartbeats 1000000 in
theorem ccheck_ok (n k p : Nat) (hn : n ≤ 1000000000) (hk : k ≤ n) (hp : p ≤ 1000) (hpr : Wm.Prime p) (w : World) :
    Calls Try.prog 33 #[.int .i64 n, .int .i64 k, .int .i64 p] w fun e w' => e = .returned (.int .i64 0) ∧ w' = w := by
  have ci := hide (fun w : World => Is_ok p (by omega) w)
  rw [Wm.isp_true hpr] at ci
  go_enter Try.func33, Try.ntmps33
  go_wp2_with fail
  refine (unhide ci _).mono ?_
  rintro e w' ⟨rfl, rfl⟩
  go_wp2
  go_ret
  exact ⟨rfl, rfl⟩

theorem is_some (p : Int) : ∃ (b : Bool) (e : Int), Hid (∀ w : World, Calls Try.prog 13 #[.int .i64 p] w fun x w' => x = .returned (.tuple #[.bool b, .int .i64 e]) ∧ w' = w) ∧
    (¬ (0 ≤ p ∧ p ≤ 1000 ∧ Wm.Prime p.toNat) → (e == 0) = false ∨ (e = 0 ∧ b = false) ∨ (e = 0 ∧ b = true ∧ 1000 < p)) := by
  by_cases h : p < 0 ∨ 1000000 < p
  · exact ⟨false, 1, hide fun w => Is_bad p h w, fun _ => .inl rfl⟩
  · obtain ⟨q, rfl⟩ := Int.eq_ofNat_of_zero_le (show 0 ≤ p by omega)
    refine ⟨Wm.isp q, 0, hide fun w => Is_ok q (by omega) w, fun hbad => ?_⟩
    by_cases hp : Wm.Prime q
    · refine .inr (.inr ⟨rfl, Wm.isp_true hp, ?_⟩)
      rcases Nat.lt_or_ge 1000 q with h1 | h1
      · omega
      · exact absurd ⟨by omega, by omega, by simpa using hp⟩ hbad
    · exact .inr (.inl ⟨rfl, Wm.isp_false hp⟩)

set_option maxRecDepth 100000 in
set_option maxHeartbeats 1000000 in
theorem ccheck_bad (n k p : Int) (h : ¬ goodC n k p) (w : World) :
    Calls Try.prog 33 #[.int .i64 n, .int .i64 k, .int .i64 p] w fun e w' => e = .returned (.int .i64 1) ∧ w' = w := by
  obtain ⟨b, e0, ci, hb⟩ := is_some p
  have hcase : n < 0 ∨ (¬ n < 0 ∧ 1000000000 < n) ∨ (¬ n < 0 ∧ ¬ 1000000000 < n ∧ k < 0) ∨ (¬ n < 0 ∧ ¬ 1000000000 < n ∧ ¬ k < 0 ∧ n < k) ∨ (¬ n < 0 ∧ ¬ 1000000000 < n ∧ ¬ k < 0 ∧ ¬ n < k ∧ ((e0 == 0) = false ∨ (e0 = 0 ∧ b = false) ∨ (e0 = 0 ∧ b = true ∧ 1000 < p))) := by
    by_cases h1 : n < 0
    · exact .inl h1
    · by_cases h2 : 1000000000 < n
      · exact .inr (.inl ⟨h1, h2⟩)
      · by_cases h3 : k < 0
        · exact .inr (.inr (.inl ⟨h1, h2, h3⟩))
        · by_cases h4 : n < k
          · exact .inr (.inr (.inr (.inl ⟨h1, h2, h3, h4⟩)))
          · exact .inr (.inr (.inr (.inr ⟨h1, h2, h3, h4, hb (fun ⟨a, b, c⟩ => h ⟨by omega, by omega, by omega, by omega, a, b, c⟩)⟩)))
  clear h hb
  rcases hcase with h1 | ⟨h1, h2⟩ | ⟨h1, h2, h3⟩ | ⟨h1, h2, h3, h4⟩ | ⟨h1, h2, h3, h4, h5 | ⟨rfl, rfl⟩ | ⟨rfl, rfl, h5⟩⟩
  · go_enter Try.func33, Try.ntmps33
    go_wp2_with fail
    refine (unhide ci _).mono ?_
    rintro e w' ⟨rfl, rfl⟩
    go_wp2
    go_ret
    exact ⟨rfl, rfl⟩
  · go_enter Try.func33, Try.ntmps33
    go_wp2_with fail
    refine (unhide ci _).mono ?_
    rintro e w' ⟨rfl, rfl⟩
    go_wp2
    go_ret
    exact ⟨rfl, rfl⟩
  · go_enter Try.func33, Try.ntmps33
    go_wp2_with fail
    refine (unhide ci _).mono ?_
    rintro e w' ⟨rfl, rfl⟩
    go_wp2
    go_ret
    exact ⟨rfl, rfl⟩
  · go_enter Try.func33, Try.ntmps33
    go_wp2_with fail
    refine (unhide ci _).mono ?_
    rintro e w' ⟨rfl, rfl⟩
    go_wp2
    go_ret
    exact ⟨rfl, rfl⟩
  · have h6 : (e0 != 0) = true := by rw [bne, h5]; rfl
    have h7 : ¬ e0 = 0 := by rw [beq_eq_false_iff_ne] at h5; exact h5
    go_enter Try.func33, Try.ntmps33
    go_wp2_with fail
    refine (unhide ci _).mono ?_
    rintro e w' ⟨rfl, rfl⟩
    go_wp2
    go_ret
    exact ⟨rfl, rfl⟩
  · go_enter Try.func33, Try.ntmps33
    go_wp2_with fail
    refine (unhide ci _).mono ?_
    rintro e w' ⟨rfl, rfl⟩
    go_wp2
    go_ret
    exact ⟨rfl, rfl⟩
  · go_enter Try.func33, Try.ntmps33
    go_wp2_with fail
    refine (unhide ci _).mono ?_
    rintro e w' ⟨rfl, rfl⟩
    go_wp2
    go_ret
    exact ⟨rfl, rfl⟩

theorem Mod_bad (n k p : Int) (h : ¬ goodC n k p) (w : World) :
    Calls Try.prog 18 #[.int .i64 n, .int .i64 k, .int .i64 p] w fun e w' => e = .returned (.tuple #[.int .i64 0, .int .i64 1]) ∧ w' = w := by
  have c0 := hide (ccheck_bad n k p h)
  clear h
  go_enter Try.func18, Try.ntmps18
  go_wp2_with fail
  refine (unhide c0 _).mono ?_
  rintro e w' ⟨rfl, rfl⟩
  go_wp2
  go_ret2
  exact ⟨rfl, rfl⟩

theorem inv_nat (w : World) (a p : Nat) (hpr : Wm.Prime p) (hp : p ≤ 1000) (h0 : 0 < a) (ha : a < p) : ∃ y : Nat, y < p ∧ Wm.inv (a : Int) (p : Int) = (y : Int) ∧ a * y % p = 1 % p ∧ Int.gcd (a : Int) (p : Int) = 1 := by
  have hg : Int.gcd (a : Int) (p : Int) = 1 := by
    show Nat.gcd a p = 1
    rw [Nat.gcd_comm]
    exact hpr.coprime (fun h => by have := Nat.le_of_dvd h0 h; omega)
  obtain ⟨⟨h1, h2⟩, h3⟩ := inv_is w (a : Int) (p : Int) (by omega) (by omega) hg
  obtain ⟨y, hy⟩ := Int.eq_ofNat_of_zero_le h1
  rw [hy] at h2 h3
  refine ⟨y, by omega, hy, ?_, hg⟩
  have h4 := Wm.emod_congr.2 h3
  have h5 : ((y * a % p : Nat) : Int) = ((1 % p : Nat) : Int) := by push_cast; exact h4
  rw [Nat.mul_comm]
  exact_mod_cast h5

set_option maxRecDepth 100000 in
set_option maxHeartbeats 1000000 in
theorem bsmall_ok (n k p : Nat) (hpr : Wm.Prime p) (hp : p ≤ 1000) (hn : n < p) (hk : k < p) (w : World) :
    Calls Try.prog 34 #[.int .i64 n, .int .i64 k, .int .i64 p] w fun e w' => e = .returned (.int .i64 (Wm.C n k % p : Nat)) ∧ ∃ d, w' = w.drewN d := by
  by_cases hkn : n < k
  · have hc : Wm.C n k % p = 0 := by rw [Wm.C_gt n k hkn]; simp
    rw [hc]
    have hI : (n : Int) < (k : Int) := by omega
    clear hc
    go_enter Try.func34, Try.ntmps34
    go_wp2
    go_ret
    exact ⟨rfl, 0, rfl⟩
  · have hI : ¬ (n : Int) < (k : Int) := by omega
    have hI2 : decide (n < k) = false := decide_eq_false hkn
    have p0 : ¬ (p : Int) = 0 := by omega
    have p0B : ((p : Int) == 0) = false := by rw [beq_eq_false_iff_ne]; exact p0
    have p0N : ¬ p = 0 := by omega
    have hp1 := hpr.1
    have h1p : 1 % p = 1 := Nat.mod_eq_of_lt hp1
    go_enter Try.func34, Try.ntmps34
    go_wp2
    go_loopw [7, 8] (fun o i wr => ∃ (j c : Nat), j ≤ k ∧ i = .int .i64 ((j + 1 : Nat) : Int) ∧ o = .int .i64 c ∧ c < p ∧ Hid (c = Wm.C n j % p) ∧ ∃ d, wr = w.drewN d) (fun _ i _ => k + 1 - (intOf i).toNat)
    case atStart => exact ⟨0, 1, Nat.zero_le _, rfl, rfl, hp1, hide (by rw [Wm.C_zero, h1p]), 0, rfl⟩
    case round =>
      obtain ⟨j, c, hj, rfl, rfl, hcp, hc, d, rfl⟩ := hrel
      by_cases hlt : j < k
      · obtain ⟨y, hy, hye, hy1, hg⟩ := inv_nat w (j + 1) p hpr hp (by omega) (by omega)
        have ci := fun w : World => Inverse_ok ((j + 1 : Nat) : Int) (p : Int) w (by omega) hg
        rw [hye] at ci
        have CI := hide ci
        have hnx := Wm.small_next (p := p) (n := n) (i := j) hy1
        rw [← unhide hc] at hnx
        obtain ⟨m, hm⟩ : ∃ m, m = n - j := ⟨_, rfl⟩
        rw [← hm] at hnx
        have hmI : (n : Int) - ((j : Int) + 1) + 1 = (m : Int) := by omega
        obtain ⟨r1, hr1⟩ : ∃ r1, r1 = c * m % p := ⟨_, rfl⟩
        rw [← hr1] at hnx
        obtain ⟨r2, hr2⟩ : ∃ r2, r2 = r1 * y % p := ⟨_, rfl⟩
        rw [← hr2] at hnx
        have b1 : r1 < p := by rw [hr1]; exact Nat.mod_lt _ (by omega)
        have b2 : r2 < p := by rw [hr2]; exact Nat.mod_lt _ (by omega)
        have bm : m ≤ 1000 := by omega
        have q1 : (c : Int) * (m : Int) = ((c * m : Nat) : Int) := (Int.natCast_mul _ _).symm
        have q2 : (r1 : Int) * (y : Int) = ((r1 * y : Nat) : Int) := (Int.natCast_mul _ _).symm
        have l1 : c * m ≤ 1000 * 1000 := Nat.mul_le_mul (by omega) bm
        have l2 : r1 * y ≤ 1000 * 1000 := Nat.mul_le_mul (by omega) (by omega)
        have fin : (wrap64 ((wrap64 ((c : Int) * ((n : Int) - ((j : Int) + 1) + 1))).tmod (p : Int) * (y : Int))).tmod (p : Int) = (r2 : Int) := by
          have e1 : wrap64 ((c : Int) * (m : Int)) = ((c * m : Nat) : Int) := by rw [q1]; exact IntWalk.wrap64_in _ (by omega)
          have e2 : ((c * m : Nat) : Int).tmod (p : Int) = (r1 : Int) := by rw [hr1]; rfl
          have e3 : wrap64 ((r1 : Int) * (y : Int)) = ((r1 * y : Nat) : Int) := by rw [q2]; exact IntWalk.wrap64_in _ (by omega)
          have e4 : ((r1 * y : Nat) : Int).tmod (p : Int) = (r2 : Int) := by rw [hr2]; rfl
          rw [hmI, e1, e2, e3, e4]
        have FIN := hide fin
        have HN := hide hnx
        clear ci hye hy1 hg hnx hm hmI hr1 hr2 q1 q2 l1 l2 hc fin
        go_wp2_with fail
        refine (unhide CI _).mono ?_
        rintro e w' ⟨rfl, d2, rfl⟩
        go_wp2
        go_roundw
        case rel => exact ⟨j + 1, r2, by omega, num_eqL (by omega), num_eqL (unhide FIN), b2, HN, d + d2, by first | rfl | rw [World.drewN_drewN]⟩
        case measure => simp [intOf]; omega
      · obtain rfl : j = k := by omega
        have HC := hide (unhide hc)
        clear hc
        go_wp2
        go_ret
        exact ⟨by rw [← unhide HC]; rfl, d, rfl⟩

set_option maxRecDepth 100000 in
set_option maxHeartbeats 1000000 in
theorem Mod_ok (n k p : Nat) (hn : n ≤ 1000000000) (hk : k ≤ n) (hp : p ≤ 1000) (hpr : Wm.Prime p) (w : World) :
    Calls Try.prog 18 #[.int .i64 n, .int .i64 k, .int .i64 p] w fun e w' => e = .returned (.tuple #[.int .i64 (Wm.luc p n k), .int .i64 0]) ∧ ∃ d, w' = w.drewN d := by
  have c0 := hide (ccheck_ok n k p hn hk hp hpr)
  have CS := hide (fun (a b : Nat) (ha : a < p) (hb : b < p) (w : World) => bsmall_ok a b p hpr hp ha hb w)
  have hp1 := hpr.1
  have p0 : ¬ (p : Int) = 0 := by omega
  have p0B : ((p : Int) == 0) = false := by rw [beq_eq_false_iff_ne]; exact p0
  have p0N : ¬ p = 0 := by omega
  clear hpr
  go_enter Try.func18, Try.ntmps18
  go_wp2_with fail
  refine (unhide c0 _).mono ?_
  rintro e w' ⟨rfl, rfl⟩
  go_wp2
  go_loopw [0, 1, 9] (fun a b o wr => ∃ (n' k' t : Nat), a = .int .i64 n' ∧ b = .int .i64 k' ∧ o = .int .i64 t ∧ n' ≤ 1000000000 ∧ k' ≤ n' ∧ t < p ∧ Hid (Wm.luc p n k = t * Wm.luc p n' k' % p) ∧ ∃ d, wr = w'.drewN d) (fun a _ _ _ => (intOf a).toNat)
  case atStart => exact ⟨n, k, 1, rfl, rfl, rfl, hn, hk, hp1, hide (by rw [Nat.one_mul, Wm.luc_start hp1]), 0, rfl⟩
  case round =>
    obtain ⟨n', k', t, rfl, rfl, rfl, hn', hk', ht, he, d, rfl⟩ := hrel
    by_cases hlt : 0 < n'
    · have hst := Wm.luc_round (k := k') (o := t) hp1 hlt
      have hd := Nat.div_lt_self hlt hp1
      have hkd : k' / p ≤ n' / p := Nat.div_le_div_right hk'
      have ha := Nat.mod_lt n' (show p > 0 by omega)
      have hb := Nat.mod_lt k' (show p > 0 by omega)
      have cs := unhide CS (n' % p) (k' % p) ha hb
      have HE := hide ((unhide he).trans hst)
      have q1 : (n' : Int) / (p : Int) = ((n' / p : Nat) : Int) := rfl
      have q2 : (k' : Int) / (p : Int) = ((k' / p : Nat) : Int) := rfl
      have q3 : (n' : Int).tmod (p : Int) = ((n' % p : Nat) : Int) := rfl
      have q4 : (k' : Int).tmod (p : Int) = ((k' % p : Nat) : Int) := rfl
      have q5 : (n' : Int) % (p : Int) = ((n' % p : Nat) : Int) := rfl
      have q6 : (k' : Int) % (p : Int) = ((k' % p : Nat) : Int) := rfl
      have q7 : (n' : Int).tdiv (p : Int) = ((n' / p : Nat) : Int) := rfl
      have q8 : (k' : Int).tdiv (p : Int) = ((k' / p : Nat) : Int) := rfl
      have hcb : Wm.C (n' % p) (k' % p) % p < p := Nat.mod_lt _ (by omega)
      generalize Wm.C (n' % p) (k' % p) % p = c at *
      generalize n' / p = A at *
      generalize k' / p = B at *
      generalize n' % p = x at *
      generalize k' % p = y at *
      have hr : t * c ≤ 1000 * 1000 := Nat.mul_le_mul (by omega) (by omega)
      obtain ⟨r, hr1⟩ : ∃ r, r = t * c % p := ⟨_, rfl⟩
      rw [← hr1] at HE
      have hrp : r < p := by rw [hr1]; exact Nat.mod_lt _ (by omega)
      have m1 : (t : Int) * (c : Int) = ((t * c : Nat) : Int) := (Int.natCast_mul _ _).symm
      have e1 : IntKind.i64.wrap ((t : Int) * (c : Int)) = (t : Int) * (c : Int) := by rw [m1]; exact IntWalk.i64_in _ (by omega)
      have e2 : ((t : Int) * (c : Int)).tmod (p : Int) = (r : Int) := by rw [m1, hr1]; rfl
      have e3 : ((t : Int) * (c : Int)) % (p : Int) = (r : Int) := by rw [m1, hr1]; rfl
      have C1 := hide cs
      clear he hst cs m1 hr1 hr ha hb hcb
      obtain ⟨wz, hwz⟩ : ∃ wz, wz = w'.drewN d := ⟨_, rfl⟩
      rw [← hwz]
      have HZ : Hid (∀ a b, ∃ d, (wz.drewN a).drewN b = w'.drewN d) := hide fun a b => by rw [hwz, World.drewN_drewN, World.drewN_drewN]; exact ⟨_, rfl⟩
      clear hwz
      go_upto_region 6 with fail
      go_quiet ((go_at_call 34; with_reducible exact Calls.quiet_of (unhide C1 _)))
      go_upto_region 7 with fail
      go_quiet (fail)
      go_wp2
      go_roundw
      case rel => exact ⟨A, B, r, rfl, rfl, rfl, by omega, hkd, hrp, HE, by first | exact unhide HZ _ _ | (have := unhide HZ; simp only [World.drewN_drewN] at this; exact this _ _)⟩
      case measure => simp [intOf]; omega
    · obtain rfl : n' = 0 := by omega
      obtain rfl : k' = 0 := by omega
      have he' := unhide he
      rw [Wm.luc_zero, show Wm.C 0 0 = 1 from rfl, Nat.mod_eq_of_lt hp1, Nat.mul_one, Nat.mod_eq_of_lt ht] at he'
      have HE := hide he'
      clear he he'
      go_wp2
      go_ret2
      exact ⟨by rw [unhide HE]; rfl, d, rfl⟩
end Go.Proofs.Ytdcpijodoppncaa

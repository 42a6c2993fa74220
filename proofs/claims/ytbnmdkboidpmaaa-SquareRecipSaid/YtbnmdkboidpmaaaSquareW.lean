/-
  The walks of the laws SquareEuler and SquareRoot.
-/
import Derived.Test.YtbnmdkboidpmaaaSymbol1
import Derived.Test.YtbnmdkboidpmaaaLegendre0
import Derived.Test.YtbnmdkboidpmaaaArith1
namespace Go.Proofs.Ytbnmdkboidpmaaa
open Go.RowKit Go.BigFrame

theorem prime_7 : Wm.Prime 7 := Wm.pchk_spec (r := 1) (by decide +kernel)
theorem fac_prime {p : Nat} (hp : Wm.Prime p) : Wm.IsFac p [(p, 1)] := ⟨by simp, fun x hx => by
  simp only [List.mem_singleton] at hx
  subst hx
  exact ⟨hp, Nat.le_refl _⟩, by simp [Wm.prodP]⟩
theorem jac_prime (a : Int) (p : Nat) : jac a [(p, 1)] = leg p a := by simp [jac, Int.pow_succ]
theorem Symbol_prime (a : Int) (p : Nat) (w : World) (hp : Wm.Prime p) (h3 : 3 ≤ p) (h6 : p ≤ 1000000) :
    Calls Try.prog 23 #[.int .i64 a, .int .i64 p] w fun e w' => e = .returned (.tuple #[.int .i64 (leg p a), .int .i64 0]) ∧ Ext w w' :=
  (Symbol_ok a p w (by omega) h6 (Wm.prime_odd hp h3)).mono fun e w' ⟨⟨l, hl, he⟩, hx⟩ => ⟨by rw [he, Wm.fac_unique hl (fac_prime hp), jac_prime], hx⟩

/-- A remainder's power, in naturals. -/
theorem emod_pow_nat (a : Int) (p n : Nat) (hp : 0 < p) : a ^ n % (p : Int) = (((a % (p : Int)).toNat ^ n % p : Nat) : Int) := by
  have h0 := Int.emod_nonneg a (show (p : Int) ≠ 0 by omega)
  obtain ⟨A, hA⟩ := Int.eq_ofNat_of_zero_le h0
  rw [← Wm.pow_emod a (p : Int) n, hA, Int.toNat_natCast]
  push_cast
  rfl
theorem dvd_rem {a : Int} {p : Nat} (hp : 0 < p) : (p : Int) ∣ a ↔ p ∣ (a % (p : Int)).toNat := by
  have h0 := Int.emod_nonneg a (show (p : Int) ≠ 0 by omega)
  have h1 := Int.emod_lt_of_pos a (show (0 : Int) < p by omega)
  constructor
  · intro h
    rw [Int.emod_eq_zero_of_dvd h]
    simp
  · intro h
    apply Int.dvd_of_emod_eq_zero
    rcases Nat.eq_zero_or_pos (a % (p : Int)).toNat with h' | h'
    · omega
    · have := Nat.le_of_dvd h' h; omega
/-- EULER: what LEGENDRE's symbol is. -/
theorem leg_power (p : Nat) (a : Int) (hp : Wm.Prime p) (h3 : 3 ≤ p) : a ^ ((p - 1) / 2) % (p : Int) = leg p a % (p : Int) := by
  have h := Wm.euler_three (a := (a % (p : Int)).toNat) hp h3 (Wm.prime_odd hp h3)
  have e := emod_pow_nat a p ((p - 1) / 2) hp.pos
  unfold leg
  rw [e]
  rcases h with h | h | h
  · rw [h]; simp
  · rw [h]
    simp only [Int.natCast_one, Int.one_ne_zero, if_false, if_true]
    rw [Int.emod_eq_of_lt (by omega) (by omega)]
  · rw [h, if_neg (by omega), if_neg (by omega)]
    have : ((p - 1 : Nat) : Int) = (p : Int) - 1 := by omega
    rw [this]
    have h2 := Int.add_emod_right (-1) (p : Int)
    rw [← h2, show (-1 : Int) + p = p - 1 by omega, Int.emod_eq_of_lt (by omega) (by omega)]
/-- A root, or none. -/
theorem root_leg {p : Nat} {a : Int} (hp : Wm.Prime p) (h3 : 3 ≤ p) (hno : ∀ y, y < p → ((y * y % p : Nat) : Int) ≠ a % (p : Int)) : leg p a = -1 := by
  have h0 := Int.emod_nonneg a (show (p : Int) ≠ 0 by omega)
  have h1 := Int.emod_lt_of_pos a (show (0 : Int) < p by omega)
  have ha : ¬ p ∣ (a % (p : Int)).toNat := fun h => by
    have := (dvd_rem (a := a) hp.pos).2 h
    apply hno 0 hp.pos
    rw [Int.emod_eq_zero_of_dvd this]
    simp
  have h := Wm.euler_non hp h3 ha fun x hx e => hno x hx (by
    rw [Nat.mod_eq_of_lt (show (a % (p : Int)).toNat < p by omega)] at e
    omega)
  have e := emod_pow_nat a p ((p - 1) / 2) hp.pos
  rw [h] at e
  unfold leg
  rw [e, if_neg (by omega), if_neg (by omega)]
theorem leg_root {p x : Nat} {a : Int} (hp : Wm.Prime p) (h3 : 3 ≤ p) (hx : ((x * x % p : Nat) : Int) = a % (p : Int)) : 0 ≤ leg p a := by
  have h1 := Int.emod_lt_of_pos a (show (0 : Int) < p by omega)
  have hh : x * x % p = (a % (p : Int)).toNat % p := by rw [Nat.mod_eq_of_lt (show (a % (p : Int)).toNat < p by omega)]; omega
  have e := emod_pow_nat a p ((p - 1) / 2) hp.pos
  unfold leg
  rw [e]
  by_cases ha : p ∣ (a % (p : Int)).toNat
  · rw [Wm.euler_zero hp h3 ha]; simp
  · rw [Wm.euler_yes hp (Wm.prime_odd hp h3) ha hh]; simp
/-- The least root is below half. -/
theorem root_half {p x : Nat} {a : Int} (hp : Wm.Prime p) (h3 : 3 ≤ p) (hlt : x < p) (hx : ((x * x % p : Nat) : Int) = a % (p : Int)) (hmin : ∀ y, y < x → ((y * y % p : Nat) : Int) ≠ a % (p : Int)) : 2 * x < p := by
  have ho := Wm.prime_odd hp h3
  rcases Nat.lt_or_ge (2 * x) p with h | h
  · exact h
  · exfalso
    apply hmin (p - x) (by omega)
    rw [← hx]
    congr 1
    have e : (p - x) * (p - x) = x * x + p * (p - 2 * x) ∨ (p - x) * (p - x) + p * (2 * x - p) = x * x := by
      right
      obtain ⟨y, rfl⟩ : ∃ y, p = x + y := ⟨p - x, by omega⟩
      obtain ⟨z, rfl⟩ : ∃ z, x = y + z := ⟨x - y, by omega⟩
      rw [show y + z + y - (y + z) = y by omega, show 2 * (y + z) - (y + z + y) = z by omega]
      simp only [Nat.mul_add, Nat.add_mul]
      have := Nat.mul_comm y z
      omega
    rcases e with e | e
    · rw [e, Nat.add_mul_mod_self_left]
    · rw [← e, Nat.add_mul_mod_self_left]

set_option maxHeartbeats 1000000 in
theorem squares_any (w : World) : Calls Try.prog 20 #[] w fun e w' => e = .returned (.bool true) ∧ Ext w w' := by
  have c1 := fun w : World => Symbol_prime 2 7 w prime_7 (by omega) (by omega)
  rw [show leg 7 2 = 1 by decide] at c1
  have c2 : ∀ w : World, Calls Try.prog 28 #[.int .i64 2, .int .i64 7] w fun e w' => e = .returned (.tuple #[.int .i64 3, .int .i64 0]) ∧ Ext w w' := fun w =>
    (Root_ok 2 7 w prime_7 (by omega)).mono fun e w' ⟨h, hx⟩ => ⟨by
      rcases h with ⟨x, h1, h2, h3, he⟩ | ⟨h1, -⟩
      · have : x = 3 := by
          have h4 := h3 3
          match x, h1, h2 with
          | 0, _, h => exact absurd h (by decide)
          | 1, _, h => exact absurd h (by decide)
          | 2, _, h => exact absurd h (by decide)
          | 3, _, _ => rfl
          | 4, _, _ => exact absurd (by decide) (h4 (by omega))
          | 5, _, _ => exact absurd (by decide) (h4 (by omega))
          | 6, _, _ => exact absurd (by decide) (h4 (by omega))
        subst this
        exact he
      · exact absurd (by decide) (h1 3 (by omega)), hx⟩
  have C1 := hide c1
  have C2 := hide c2
  clear c1 c2
  go_enter Try.func20, Try.ntmps20
  go_wp2_with fail
  refine (unhide C1 _).mono ?_
  rintro e w1 ⟨rfl, E1⟩
  go_wp2_with fail
  refine (unhide C2 _).mono ?_
  rintro e w2 ⟨rfl, E2⟩
  have F := E1.trans E2
  clear E1 E2
  go_wp2_with fail
  refine (good_made [0, 0] _ _ _ _ rfl rfl (by decide)).mono ?_
  rintro e w3 ⟨rfl, rfl⟩
  go_wp2
  go_ret
  exact ⟨rfl, F.alloc _⟩

set_option maxRecDepth 100000 in
set_option maxHeartbeats 2000000 in
theorem seuler_any (a n : Int) (w : World) :
    Calls Try.prog 5 #[.int .i64 a, .int .i64 n] w fun e w' => e = .returned (.bool true) ∧ Ext w w' := by
  obtain ⟨N', n0, n1, -, cN⟩ := within_ex n 900000 (by omega) (by omega)
  obtain ⟨N, rfl⟩ := Int.eq_ofNat_of_zero_le n0
  obtain ⟨p, hpn, hp6⟩ := next_exists (n := 3 + N) Wm.prime_999983 (by omega)
  have hp : Wm.Prime p := hpn.1
  have h3 : 3 ≤ p := by have := hpn.2.1; omega
  have h6 : p ≤ 1000000 := by omega
  have cn := fun w : World => Next_ok (3 + N) p hpn h6 w
  rw [show ((3 + N : Nat) : Int) = 3 + (N : Int) by omega] at cn
  have CN := hide cn
  have CS := hide (fun w : World => Symbol_prime a p w hp h3 h6)
  have cp := fun w : World => pow_ok a ((p - 1) / 2) p w (by omega) (by omega) (by omega)
  rw [show (((p - 1) / 2 : Nat) : Int) = ((p : Int) - 1) / 2 by omega, leg_power p a hp h3] at cp
  have CP := hide cp
  have CW := hide (fun w : World => within_any (leg p a) p w (by omega) (by omega))
  have lb := leg_bound p a
  have q1 : 3 ≤ (p : Int) := by omega
  have q6 : (p : Int) ≤ 1000000 := by omega
  clear cn cp hpn hp h3 h6 hp6
  have bm := Wm.emod_bound (leg p a) (show (0 : Int) < (p : Int) by omega)
  generalize leg p a % (p : Int) = z at *
  generalize leg p a = s at *
  go_enter Try.func5, Try.ntmps5
  go_wp2_with fail
  refine (squares_any _).mono ?_
  rintro e w1 ⟨rfl, E1⟩
  go_wp2_with fail
  refine (unhide cN _).mono ?_
  rintro e w2 ⟨rfl, rfl⟩
  go_wp2_with fail
  refine (unhide CN _).mono ?_
  rintro e w3 ⟨rfl, rfl⟩
  go_wp2_with fail
  refine (unhide CS _).mono ?_
  rintro e w4 ⟨rfl, E4⟩
  have F4 := E1.trans E4
  clear E1 E4
  go_wp2_with fail
  refine (unhide CP _).mono ?_
  rintro e w5 ⟨rfl, n5, rfl⟩
  go_wp2_with fail
  refine (good_made [0, 0, 0] _ _ _ _ rfl rfl (by decide)).mono ?_
  rintro e w6 ⟨rfl, rfl⟩
  go_wp2_with fail
  refine (unhide CW _).mono ?_
  rintro e w7 ⟨rfl, rfl⟩
  go_wp2
  go_ret
  exact ⟨rfl, (by repeat (first | exact F4 | refine Ext.alloc ?_ _ | refine Ext.drew ?_ | refine Ext.drewN ?_ _ | (refine Ext.trans ?_ (plus_ext _ _)) | (refine Ext.setCell ?_ (by have := Ext.size F4; simp; omega) _)))⟩

set_option maxRecDepth 100000 in
set_option maxHeartbeats 2000000 in
theorem sroot_any (a n : Int) (w : World) :
    Calls Try.prog 9 #[.int .i64 a, .int .i64 n] w fun e w' => e = .returned (.bool true) ∧ Ext w w' := by
  obtain ⟨N', n0, n1, -, cN⟩ := within_ex n 900000 (by omega) (by omega)
  obtain ⟨N, rfl⟩ := Int.eq_ofNat_of_zero_le n0
  obtain ⟨p, hpn, hp6⟩ := next_exists (n := 3 + N) Wm.prime_999983 (by omega)
  have hp : Wm.Prime p := hpn.1
  have h3 : 3 ≤ p := by have := hpn.2.1; omega
  have h6 : p ≤ 1000000 := by omega
  have cn := fun w : World => Next_ok (3 + N) p hpn h6 w
  rw [show ((3 + N : Nat) : Int) = 3 + (N : Int) by omega] at cn
  have CN := hide cn
  have CS := hide (fun w : World => Symbol_prime a p w hp h3 h6)
  have CR := hide (fun w : World => Root_ok a p w hp h6)
  have CW := hide (fun w : World => within_any a p w (by omega) (by omega))
  have lb := leg_bound p a
  have q1 : 3 ≤ (p : Int) := by omega
  have q6 : (p : Int) ≤ 1000000 := by omega
  have HP := hide hp
  have HN := hide (fun h => root_leg (p := p) (a := a) hp h3 h)
  have HR := hide (fun x h => leg_root (p := p) (x := x) (a := a) hp h3 h)
  have HH := hide (fun x h1 h2 h4 => root_half (p := p) (x := x) (a := a) hp h3 h1 h2 h4)
  clear cn hpn hp hp6
  go_enter Try.func9, Try.ntmps9
  go_wp2_with fail
  refine (squares_any _).mono ?_
  rintro e w1 ⟨rfl, E1⟩
  go_wp2_with fail
  refine (unhide cN _).mono ?_
  rintro e w2 ⟨rfl, rfl⟩
  go_wp2_with fail
  refine (unhide CN _).mono ?_
  rintro e w3 ⟨rfl, rfl⟩
  go_wp2_with fail
  refine (unhide CR _).mono ?_
  rintro e w4 ⟨hpost, E4⟩
  have F4 := E1.trans E4
  clear E1 E4
  rcases hpost with ⟨x, hlt, hx, hmin, rfl⟩ | ⟨hno, rfl⟩
  · have hl := unhide HR x hx
    have hh := unhide HH x hlt hx hmin
    have hxi : 2 * (x : Int) < (p : Int) := by omega
    have hxx : ((x * x : Nat) : Int) = (x : Int) * (x : Int) := Int.natCast_mul x x
    have hb0 : x * x ≤ 1000000 * 1000000 := Nat.mul_le_mul (by omega) (by omega)
    have hm : (x : Int) * (x : Int) % (p : Int) = a % (p : Int) := by rw [← hx, ← hxx]; rfl
    have x0 : 0 ≤ (x : Int) * (x : Int) := by omega
    have x1 : (x : Int) * (x : Int) ≤ 1000000000000 := by omega
    have wx : IntKind.i64.wrap ((x : Int) * (x : Int)) = (x : Int) * (x : Int) := IntWalk.i64_in _ (by omega)
    have tmx : ((x : Int) * (x : Int)).tmod (p : Int) = (x : Int) * (x : Int) % (p : Int) := Int.tmod_eq_emod_of_nonneg x0
    have p0 : ((p : Int) == 0) = false := by rw [beq_eq_false_iff_ne]; omega
    have p0' : ¬ (p : Int) = 0 := by omega
    have w2' : IntKind.i64.wrap (2 * (x : Int)) = 2 * (x : Int) := IntWalk.i64_in _ (by omega)
    clear hx hmin hxx hb0
    generalize a % (p : Int) = T at *
    generalize leg p a = s at *
    go_wp2_with fail
    refine (unhide CS _).mono ?_
    rintro e w5 ⟨rfl, E5⟩
    have F5 := F4.trans E5
    clear F4 E5
    go_wp2_with fail
    refine (good_made [0, 0] _ _ _ _ rfl rfl (by decide)).mono ?_
    rintro e w6 ⟨rfl, rfl⟩
    go_wp2
    go_quiet ((go_at_call 22; exact Calls.quiet_of_same (unhide CW _)))
    go_wp2
    go_ret
    exact ⟨rfl, (by repeat (first | exact F5 | refine Ext.alloc ?_ _ | refine Ext.drew ?_ | refine Ext.drewN ?_ _ | (refine Ext.trans ?_ (plus_ext _ _)) | (refine Ext.setCell ?_ (by have := Ext.size F5; simp; omega) _)))⟩
  · have hl := unhide HN hno
    rw [hl] at lb
    have CS2 := hide (fun w : World => hl ▸ unhide CS w)
    clear hno hl CS
    go_wp2_with fail
    refine (unhide CS2 _).mono ?_
    rintro e w5 ⟨rfl, E5⟩
    have F5 := F4.trans E5
    clear F4 E5
    go_wp2_with fail
    refine (good_made [0, 0] _ _ _ _ rfl rfl (by decide)).mono ?_
    rintro e w6 ⟨rfl, rfl⟩
    go_wp2
    go_ret
    exact ⟨rfl, (by repeat (first | exact F5 | refine Ext.alloc ?_ _ | refine Ext.drew ?_ | refine Ext.drewN ?_ _ | (refine Ext.trans ?_ (plus_ext _ _)) | (refine Ext.setCell ?_ (by have := Ext.size F5; simp; omega) _)))⟩

end Go.Proofs.Ytbnmdkboidpmaaa

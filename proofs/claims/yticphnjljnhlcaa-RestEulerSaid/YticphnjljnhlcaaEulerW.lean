/-
  The contract of rest.Order and the walk of RestEuler.
-/
import Derived.Test.YticphnjljnhlcaaEuler0
import Derived.Test.YticphnjljnhlcaaRest1
import Derived.Test.YticphnjljnhlcaaArith1
namespace Go.Proofs.Yticphnjljnhlcaa
open Go.RowKit Go.BigFrame

set_option maxRecDepth 100000 in
set_option maxHeartbeats 2000000 in
theorem Order_ok (a m : Int) (k : Nat) (w : World) (hm : 1 ≤ m ∧ m ≤ 1000000) (hg : Int.gcd a m = 1) (hk1 : 1 ≤ k) (hk6 : k ≤ 1000000) (hk : a ^ k % m = 1 % m) (hmin : ∀ j, 0 < j → j < k → a ^ j % m ≠ 1 % m) :
    Calls Try.prog 30 #[.int .i64 a, .int .i64 m] w fun e w' => e = .returned (.tuple #[.int .i64 k, .int .i64 0]) ∧ ∃ d, w' = w.drewN d := by
  have c1 := hide (fun w : World => Inverse_ok a m w hm hg)
  have c2 := hide (fun w : World => of_ok a m w hm.1 hm.2)
  have hA := Wm.emod_bound a (show 0 < m by omega)
  have hstep := hide (fun j => (show (a ^ j % m) * (a % m) % m = a ^ (j + 1) % m by rw [Wm.mul_emod_left', Wm.mul_emod_right', Int.pow_succ]))
  have hK := hide hk
  have hM := hide hmin
  have hB := hide (fun j : Nat => Wm.emod_bound (a ^ j) (show 0 < m by omega))
  have hst := hide (show a % m = a ^ 1 % m by rw [Int.pow_one])
  have m0 : (m == 0) = false := by rw [beq_eq_false_iff_ne]; omega
  have m0' : ¬ m = 0 := by omega
  have t1 : (1 : Int).tmod m = 1 % m := Int.tmod_eq_emod_of_nonneg (by omega)
  have b1 := Wm.emod_bound 1 (show 0 < m by omega)
  obtain ⟨hm1, hm6⟩ := hm
  clear hg hk hmin
  generalize a % m = A at *
  generalize 1 % m = o at *
  go_enter Try.func30, Try.ntmps30
  go_wp2_with fail
  refine (unhide c1 _).mono ?_
  rintro e w1 ⟨rfl, d1, rfl⟩
  go_wp2_with fail
  refine (unhide c2 _).mono ?_
  rintro e w2 ⟨rfl, rfl⟩
  go_wp2
  go_loopw [8, 9] (fun x i wr => ∃ (j : Nat) (z : Int), 1 ≤ j ∧ j ≤ k ∧ i = .int .i64 j ∧ x = .int .i64 z ∧ Hid (z = a ^ j % m) ∧ ∃ d, wr = w.drewN d) (fun _ i _ => k - (intOf i).toNat)
  case atStart => exact ⟨1, A, by omega, by omega, rfl, rfl, hst, _, rfl⟩
  case round =>
    obtain ⟨j, z, hj1, hjk, rfl, rfl, hz, d, rfl⟩ := hrel
    have hzb := unhide hB j
    rw [← unhide hz] at hzb
    by_cases hjl : j < k
    · have hne : ¬ z = o := by rw [unhide hz]; exact unhide hM j (by omega) hjl
      have he : (z == o) = false := by rw [beq_eq_false_iff_ne]; exact hne
      have hn := hide (show z * A % m = a ^ (j + 1) % m by rw [unhide hz]; exact unhide hstep j)
      have p1 := Wm.mul_bound z A 1000000 1000000 (by omega) (by omega)
      have p0 : 0 ≤ z * A := Int.mul_nonneg hzb.1 hA.1
      have w1 : IntKind.i64.wrap (z * A) = z * A := IntWalk.i64_in _ (by omega)
      have t2 : (z * A).tmod m = z * A % m := Int.tmod_eq_emod_of_nonneg p0
      have tb := Wm.emod_bound (z * A) (show 0 < m by omega)
      generalize z * A % m = y at *
      go_wp2
      go_roundw
      case rel => exact ⟨j + 1, y, by omega, by omega, by go_num, rfl, hn, _, rfl⟩
      case measure => simp [intOf]; omega
    · obtain rfl : j = k := by omega
      have he : z = o := (unhide hz).trans (unhide hK)
      subst he
      go_wp2
      go_ret2
      exact ⟨rfl, _, rfl⟩

set_option maxHeartbeats 1000000 in
theorem Order_none (a m : Int) (w : World) (hm : 1 ≤ m ∧ m ≤ 1000000) (hg : ¬ Int.gcd a m = 1) :
    Calls Try.prog 30 #[.int .i64 a, .int .i64 m] w fun e w' => e = .returned (.tuple #[.int .i64 0, .int .i64 4]) ∧ ∃ d, w' = w.drewN d := by
  have c1 := hide (fun w : World => Inverse_none a m w hm hg)
  clear hm hg
  go_enter Try.func30, Try.ntmps30
  go_wp2_with fail
  refine (unhide c1 _).mono ?_
  rintro e w1 ⟨rfl, d1, rfl⟩
  go_wp2
  go_ret2
  exact ⟨rfl, _, rfl⟩

theorem order27 (w : World) : Calls Try.prog 30 #[.int .i64 2, .int .i64 7] w fun e w' => e = .returned (.tuple #[.int .i64 3, .int .i64 0]) ∧ ∃ d, w' = w.drewN d :=
  Order_ok 2 7 3 w (by omega) (by decide) (by omega) (by omega) (by decide) fun j h1 h2 => by
    match j, h1, h2 with
    | 1, _, _ => decide
    | 2, _, _ => decide

theorem euler_int {a : Int} {m : Nat} {l : List (Nat × Nat)} (h : Wm.IsFac m l) (hm : 1 ≤ m) (hg : Int.gcd a m = 1) : a ^ nphi l % (m : Int) = 1 % (m : Int) := by
  have h0 := Wm.emod_bound a (show 0 < (m : Int) by omega)
  obtain ⟨A, hA⟩ := Int.eq_ofNat_of_zero_le h0.1
  have hc : Nat.gcd A m = 1 := by
    have := Wm.gcd_emod a (m : Int)
    rw [hA, hg] at this
    exact this
  have := Wm.euler_any h hc
  rw [← Wm.pow_emod, hA]
  exact this

set_option maxRecDepth 100000 in
set_option maxHeartbeats 4000000 in
theorem reuler_any (a n : Int) (w : World) :
    Calls Try.prog 9 #[.int .i64 a, .int .i64 n] w fun e w' => e = .returned (.bool true) ∧ Ext w w' := by
  obtain ⟨N', n0, n1, -, cN⟩ := within_ex n 5000 (by omega) (by omega)
  obtain ⟨N, rfl⟩ := Int.eq_ofNat_of_zero_le n0
  obtain ⟨m, hm⟩ : ∃ m, m = 1 + N := ⟨_, rfl⟩
  have hmi : 1 + (N : Int) = (m : Int) := by omega
  have hm1 : 1 ≤ m := by omega
  have hm5 : m ≤ 5000 := by omega
  clear hm n0
  by_cases hg : Int.gcd a (m : Int) = 1
  · obtain ⟨-, -, -, ⟨⟨l, hfac, -⟩, -⟩, -⟩ := Phi_ok m hm1 (by omega) w []
    have he := euler_int hfac hm1 hg
    have hp0 : 1 ≤ nphi l := by
      have : ∀ {l : List (Nat × Nat)}, (∀ x ∈ l, Wm.Prime x.1 ∧ 1 ≤ x.2) → 1 ≤ nphi l := fun {l} h => by
        clear he hfac
        induction l with
        | nil => simp [nphi]
        | cons x l ih =>
          have hx := (h x (by simp)).1.1
          have h1 := ih fun y hy => h y (by simp [hy])
          simp only [nphi]
          exact Nat.mul_pos (Nat.mul_pos (Nat.pow_pos (by omega)) (by omega)) h1
      exact this hfac.2.1
    have hp5 := nphi_le hfac.2.1
    rw [hfac.2.2] at hp5
    obtain ⟨k, k1, k2, hk, hmin⟩ := Wm.least_exp hp0 he
    have hdiv := Wm.order_dvd k1 hk hmin he
    have cO := hide (fun w : World => Order_ok a m k w (by omega) hg k1 (by omega) hk hmin)
    have cP : Hid (∀ w : World, Calls Try.prog 22 #[.int .i64 m] w fun e w' => e = .returned (.tuple #[.int .i64 (nphi l), .int .i64 0]) ∧ Ext w w') := hide (fun w =>
      (Phi_ok m hm1 (by omega) w).mono fun e w' ⟨⟨l', h1, h2⟩, hx⟩ => by
        obtain rfl := Wm.fac_unique hfac h1
        exact ⟨h2, hx⟩)
    have c1 := fun w : World => pow_ok a (nphi l) m w (by omega) (by omega) (by omega)
    rw [he] at c1
    have c2 := fun w : World => pow_ok a k m w (by omega) (by omega) (by omega)
    rw [hk] at c2
    have C1 := hide c1
    have C2 := hide c2
    generalize nphi l = p at *
    have b1 := Wm.emod_bound 1 (show 0 < (m : Int) by omega)
    have t1 : (1 : Int).tmod m = 1 % (m : Int) := Int.tmod_eq_emod_of_nonneg (by omega)
    have t2 : (p : Int).tmod (k : Int) = 0 := by
      have : (p : Int).tmod (k : Int) = ((p % k : Nat) : Int) := rfl
      rw [this, hdiv]; rfl
    have m0 : ((m : Int) == 0) = false := by rw [beq_eq_false_iff_ne]; omega
    have m0' : ¬ (m : Int) = 0 := by omega
    have k0 : ((k : Int) == 0) = false := by rw [beq_eq_false_iff_ne]; omega
    have k0' : ¬ (k : Int) = 0 := by omega
    have kp : decide (0 < (k : Int)) = true := decide_eq_true (by omega)
    clear hg hfac he hk hmin hdiv c1 c2
    generalize 1 % (m : Int) = o at *
    go_enter Try.func9, Try.ntmps9
    go_wp2_with fail
    refine (order27 _).mono ?_
    rintro e w1 ⟨rfl, d1, rfl⟩
    go_wp2_with fail
    refine (unhide cN _).mono ?_
    rintro e w2 ⟨rfl, rfl⟩
    go_wp2_with fail
    refine (unhide cO _).mono ?_
    rintro e w3 ⟨rfl, d3, rfl⟩
    go_wp2_with fail
    refine (unhide cP _).mono ?_
    rintro e w4 ⟨rfl, E4⟩
    have F4 := ((Ext.refl w).drewN (d1 + d3)).trans E4
    clear E4
    go_wp2_with fail
    refine (unhide C1 _).mono ?_
    rintro e w5 ⟨rfl, d5, rfl⟩
    go_wp2_with fail
    refine (unhide C2 _).mono ?_
    rintro e w6 ⟨rfl, d6, rfl⟩
    go_wp2_with fail
    refine (good_made [0, 0, 0] _ _ _ _ rfl rfl (by decide)).mono ?_
    rintro e w7 ⟨rfl, rfl⟩
    go_wp2
    go_ret
    exact ⟨rfl, (F4.drewN (d5 + d6)).alloc _⟩
  · have cO := hide (fun w : World => Order_none a m w (by omega) hg)
    clear hg
    go_enter Try.func9, Try.ntmps9
    go_wp2_with fail
    refine (order27 _).mono ?_
    rintro e w1 ⟨rfl, d1, rfl⟩
    go_wp2_with fail
    refine (unhide cN _).mono ?_
    rintro e w2 ⟨rfl, rfl⟩
    go_wp2_with fail
    refine (unhide cO _).mono ?_
    rintro e w3 ⟨rfl, d3, rfl⟩
    go_wp2
    go_ret
    exact ⟨rfl, (Ext.refl w).drewN _⟩

end Go.Proofs.Yticphnjljnhlcaa

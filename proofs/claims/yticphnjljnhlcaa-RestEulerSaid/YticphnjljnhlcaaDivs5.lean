/-
  The walk of DivideTimes.
-/
import Derived.Test.YticphnjljnhlcaaDivs3
import Derived.Test.YticphnjljnhlcaaEuclid1
namespace Go.Proofs.Yticphnjljnhlcaa
open Go.RowKit Go.BigFrame

theorem prodP_perm {l m : List (Nat × Nat)} (h : l.Perm m) : Wm.prodP l = Wm.prodP m := by
  induction h with
  | nil => rfl
  | cons x _ ih => simp only [Wm.prodP, ih]
  | swap x y l => simp only [Wm.prodP]; ac_rfl
  | trans _ _ h1 h2 => exact h1.trans h2
theorem nphi_perm {l m : List (Nat × Nat)} (h : l.Perm m) : nphi l = nphi m := by
  induction h with
  | nil => rfl
  | cons x _ ih => simp only [nphi, ih]
  | swap x y l => simp only [nphi]; ac_rfl
  | trans _ _ h1 h2 => exact h1.trans h2
theorem cntD_perm {l m : List (Nat × Nat)} (h : l.Perm m) : Wm.cntD l = Wm.cntD m := by
  induction h with
  | nil => rfl
  | cons x _ ih => simp only [Wm.cntD, ih]
  | swap x y l => simp only [Wm.cntD]; ac_rfl
  | trans _ _ h1 h2 => exact h1.trans h2
theorem mulF_perm (g : Nat → Nat → Int) {l m : List (Nat × Nat)} (h : l.Perm m) : Wm.mulF g l = Wm.mulF g m := by
  induction h with
  | nil => rfl
  | cons x _ ih => simp only [Wm.mulF, ih]
  | swap x y l => simp only [Wm.mulF]; ac_rfl
  | trans _ _ h1 h2 => exact h1.trans h2
theorem mem_prime_dvd {n : Nat} {l : List (Nat × Nat)} (h : Wm.IsFac n l) {x : Nat × Nat} (hx : x ∈ l) : x.1 ∣ n := by
  obtain ⟨s, t, rfl⟩ := List.append_of_mem hx
  have hp := (h.2.1 x hx).2
  rw [← h.2.2, Wm.prodP_append]
  simp only [Wm.prodP]
  obtain ⟨j, hj⟩ : ∃ j, x.2 = j + 1 := ⟨x.2 - 1, by omega⟩
  rw [hj, Nat.pow_succ]
  exact ⟨Wm.prodP s * (x.1 ^ j * Wm.prodP t), by ac_rfl⟩
/-- Of two numbers with nothing in common, the factorizations are laid together. -/
theorem fac_coprime {a b : Nat} {x y z : List (Nat × Nat)} (hx : Wm.IsFac a x) (hy : Wm.IsFac b y) (hz : Wm.IsFac (a * b) z) (hc : Nat.Coprime a b) : z.Perm (x ++ y) := by
  have hne : (x ++ y).Pairwise fun p q => p.1 ≠ q.1 := by
    rw [List.pairwise_append]
    refine ⟨hx.1.imp fun {a b} h => by omega, hy.1.imp fun {a b} h => by omega, fun p hp q hq he => ?_⟩
    have h1 := mem_prime_dvd hx hp
    have h2 := mem_prime_dvd hy hq
    rw [← he] at h2
    have h3 := (hx.2.1 p hp).1.1
    have h4 := Nat.dvd_gcd h1 h2
    rw [hc] at h4
    have := Nat.le_of_dvd (by omega) h4
    omega
  have hperm := List.mergeSort_perm (x ++ y) fun p q => decide (p.1 ≤ q.1)
  have hs := List.pairwise_mergeSort (le := fun p q : Nat × Nat => decide (p.1 ≤ q.1)) (fun a b c h1 h2 => by simp at *; omega) (fun a b => by simp; omega) (x ++ y)
  have hn : ((x ++ y).mergeSort fun p q => decide (p.1 ≤ q.1)).Pairwise fun p q => p.1 ≠ q.1 := hperm.symm.pairwise hne (fun {p q} h => h.symm)
  have hfac : Wm.IsFac (a * b) ((x ++ y).mergeSort fun p q => decide (p.1 ≤ q.1)) := ⟨(hs.and hn).imp fun {p q} ⟨h1, h2⟩ => by simp at h1; omega, fun q hq => by
    have := hperm.mem_iff.1 hq
    rcases List.mem_append.1 this with h | h
    · exact hx.2.1 q h
    · exact hy.2.1 q h, by rw [prodP_perm hperm, Wm.prodP_append, hx.2.2, hy.2.2]⟩
  rw [Wm.fac_unique hz hfac]
  exact hperm

set_option maxRecDepth 100000 in
set_option maxHeartbeats 4000000 in
theorem dtimes_any (a b : Int) (w : World) :
    Calls Try.prog 6 #[.int .i64 a, .int .i64 b] w fun e w' => e = .returned (.bool true) ∧ Ext w w' := by
  obtain ⟨A', a0, a1, -, cA⟩ := within_ex a 1000 (by omega) (by omega)
  obtain ⟨A1, rfl⟩ := Int.eq_ofNat_of_zero_le a0
  obtain ⟨B', b0, b1, -, cB⟩ := within_ex b 1000 (by omega) (by omega)
  obtain ⟨B1, rfl⟩ := Int.eq_ofNat_of_zero_le b0
  obtain ⟨A, hA⟩ : ∃ A, A = 1 + A1 := ⟨_, rfl⟩
  obtain ⟨B, hB⟩ : ∃ B, B = 1 + B1 := ⟨_, rfl⟩
  have hA1 : 1 ≤ A ∧ A ≤ 1000 := by omega
  have hB1 : 1 ≤ B ∧ B ≤ 1000 := by omega
  have hAi : 1 + (A1 : Int) = (A : Int) := by omega
  have hBi : 1 + (B1 : Int) = (B : Int) := by omega
  obtain ⟨M, hM⟩ : ∃ M, M = A * B := ⟨_, rfl⟩
  have hMi : (A : Int) * (B : Int) = (M : Int) := by rw [hM]; exact (Int.natCast_mul A B).symm
  have hM1 : 1 ≤ M := by rw [hM]; exact Nat.mul_pos hA1.1 hB1.1
  have hM6 : M ≤ 1000000 := by rw [hM]; exact Nat.mul_le_mul hA1.2 hB1.2
  have cG := hide (fun w : World => Gcd_ok A B w (by omega) (by omega))
  rw [Int.gcd_natCast_natCast] at cG
  have pA := hide (fun w : World => Phi_ok A hA1.1 (by omega) w)
  have pB := hide (fun w : World => Phi_ok B hB1.1 (by omega) w)
  have pM := hide (fun w : World => Phi_ok M hM1 hM6 w)
  have mA := hide (fun w : World => Moebius_ok A hA1.1 (by omega) w)
  have mB := hide (fun w : World => Moebius_ok B hB1.1 (by omega) w)
  have mM := hide (fun w : World => Moebius_ok M hM1 hM6 w)
  have dA := hide (fun w : World => Divisors_ok A hA1.1 (by omega) w)
  have dB := hide (fun w : World => Divisors_ok B hB1.1 (by omega) w)
  have dM := hide (fun w : World => Divisors_ok M hM1 hM6 w)
  clear a0 a1 b0 b1 hA hB
  have hMM := hide hM
  clear hM
  by_cases hg : Nat.gcd A B = 1
  · have hgi : ((Nat.gcd A B : Nat) : Int) = 1 := by omega
    rw [hgi] at cG
    have HG := hide hg
    clear hg hgi
    go_enter Try.func6, Try.ntmps6
    go_wp2_with fail
    refine (divides_any _).mono ?_
    rintro e w1 ⟨rfl, E1⟩
    go_wp2_with fail
    refine (unhide cA _).mono ?_
    rintro e w2 ⟨rfl, rfl⟩
    go_wp2_with fail
    refine (unhide cB _).mono ?_
    rintro e w3 ⟨rfl, rfl⟩
    go_wp2_with fail
    refine (unhide cG _).mono ?_
    rintro e w4 ⟨rfl, k4, rfl⟩
    have F := E1.drewN k4
    clear E1
    go_wp2_with fail
    refine (unhide pA _).mono ?_
    rintro e w5 ⟨⟨x, hx, rfl⟩, E5⟩
    go_wp2_with fail
    refine (unhide pB _).mono ?_
    rintro e w6 ⟨⟨y, hy, rfl⟩, E6⟩
    go_wp2_with fail
    refine (unhide pM _).mono ?_
    rintro e w7 ⟨⟨z, hz, rfl⟩, E7⟩
    have F7 := ((F.trans E5).trans E6).trans E7
    clear F E5 E6 E7
    go_wp2_with fail
    refine (unhide mA _).mono ?_
    rintro e w8 ⟨⟨x', hx', rfl⟩, E5⟩
    obtain rfl := Wm.fac_unique hx hx'
    go_wp2_with fail
    refine (unhide mB _).mono ?_
    rintro e w9 ⟨⟨y', hy', rfl⟩, E6⟩
    obtain rfl := Wm.fac_unique hy hy'
    go_wp2_with fail
    refine (unhide mM _).mono ?_
    rintro e w10 ⟨⟨z', hz', rfl⟩, E7⟩
    obtain rfl := Wm.fac_unique hz hz'
    have F10 := ((F7.trans E5).trans E6).trans E7
    clear F7 E5 E6 E7 hx' hy' hz'
    go_wp2_with fail
    refine (unhide dA _).mono ?_
    rintro e w11 ⟨⟨x', T1, v1, hx', hT1, -, rfl, hm1⟩, E5⟩
    obtain rfl := Wm.fac_unique hx hx'
    obtain ⟨C1, c1, rfl, -⟩ := hm1.open_
    go_wp2_with fail
    refine (unhide dB _).mono ?_
    rintro e w12 ⟨⟨y', T2, v2, hy', hT2, -, rfl, hm2⟩, E6⟩
    obtain rfl := Wm.fac_unique hy hy'
    obtain ⟨C2, c2, rfl, -⟩ := hm2.open_
    go_wp2_with fail
    refine (unhide dM _).mono ?_
    rintro e w13 ⟨⟨z', T3, v3, hz', hT3, -, rfl, hm3⟩, E7⟩
    obtain rfl := Wm.fac_unique hz hz'
    obtain ⟨C3, c3, rfl, -⟩ := hm3.open_
    have F13 := ((F10.trans E5).trans E6).trans E7
    clear F10 E5 E6 E7 hx' hy' hz' hm1 hm2 hm3
    rw [unhide hMM] at hz
    have hperm := fac_coprime hx hy hz (unhide HG)
    have q1 : nphi z = nphi x * nphi y := by rw [nphi_perm hperm, nphi_append]
    have q2 : Wm.mulF gmu z = Wm.mulF gmu x * Wm.mulF gmu y := by rw [mulF_perm gmu hperm, Wm.mulF_append]
    have q3 : T3.length = T1.length * T2.length := by rw [hT1.length_eq, hT2.length_eq, hT3.length_eq, Wm.length_dv, Wm.length_dv, Wm.length_dv, cntD_perm hperm, Wm.cntD_append]
    have z1 : nphi z ≤ 1000000 := by have := nphi_le hz.2.1; rw [hz.2.2, ← unhide hMM] at this; omega
    have z2 := gmu_bound z
    have z3 : T3.length ≤ 1000000 := by have := divs_len hz hT3; rw [← unhide hMM] at this; omega
    clear hx hy hz hperm hT1 hT2 hT3 pA pB pM mA mB mM dA dB dM HG hMM
    generalize nphi x = n1 at *
    generalize nphi y = n2 at *
    generalize Wm.mulF gmu x = u1 at *
    generalize Wm.mulF gmu y = u2 at *
    generalize T1.length = l1 at *
    generalize T2.length = l2 at *
    have q1i : ((nphi z : Nat) : Int) = (n1 : Int) * (n2 : Int) := by rw [q1]; exact Int.natCast_mul n1 n2
    have q3i : ((T3.length : Nat) : Int) = (l1 : Int) * (l2 : Int) := by rw [q3]; exact Int.natCast_mul l1 l2
    have r1 : IntKind.i64.wrap ((n1 : Int) * (n2 : Int)) = (n1 : Int) * (n2 : Int) := IntWalk.i64_in _ (by omega)
    have r2 : IntKind.i64.wrap (u1 * u2) = u1 * u2 := IntWalk.i64_in _ (by omega)
    have r3 : IntKind.i64.wrap ((l1 : Int) * (l2 : Int)) = (l1 : Int) * (l2 : Int) := IntWalk.i64_in _ (by omega)
    rw [q1i, q2]
    clear q1 q2 q3 q1i z1 z2 z3
    have h3 : (((T3.length : Nat) : Int) == (l1 : Int) * (l2 : Int)) = true := by rw [q3i]; exact beq_self_eq_true _
    clear q3i
    generalize T3.length = l3 at *
    go_wp2_with fail
    refine (good_made [0, 0, 0, 0, 0, 0, 0, 0, 0] _ _ _ _ rfl rfl (by decide)).mono ?_
    rintro e w14 ⟨rfl, rfl⟩
    go_wp2
    go_ret
    exact ⟨rfl, F13.alloc _⟩
  · have h1 : (((Nat.gcd A B : Nat) : Int) != 1) = true := by rw [bne_iff_ne]; omega
    generalize Nat.gcd A B = g at *
    clear hg pA pB pM mA mB mM dA dB dM
    go_enter Try.func6, Try.ntmps6
    go_wp2_with fail
    refine (divides_any _).mono ?_
    rintro e w1 ⟨rfl, E1⟩
    go_wp2_with fail
    refine (unhide cA _).mono ?_
    rintro e w2 ⟨rfl, rfl⟩
    go_wp2_with fail
    refine (unhide cB _).mono ?_
    rintro e w3 ⟨rfl, rfl⟩
    go_wp2_with fail
    refine (unhide cG _).mono ?_
    rintro e w4 ⟨rfl, k4, rfl⟩
    go_wp2
    go_ret
    exact ⟨rfl, E1.drewN k4⟩

end Go.Proofs.Yticphnjljnhlcaa

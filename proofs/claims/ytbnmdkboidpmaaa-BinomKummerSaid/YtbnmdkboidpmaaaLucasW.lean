/-
  The walks of the laws BinomLucas and BinomKummer.
-/
import Derived.Test.YtbnmdkboidpmaaaLucas1
import Derived.Test.YtbnmdkboidpmaaaBinom1
import Derived.Test.YtbnmdkboidpmaaaHead
set_option linter.unusedVariables false
set_option linter.unusedSimpArgs false
namespace Wm
theorem prime_2 : Prime 2 := pchk_spec (r := 0) (by decide +kernel)
theorem prime_7 : Prime 7 := pchk_spec (r := 1) (by decide +kernel)
theorem luc_527 : luc 7 5 2 = 3 := by rw [luc_eq prime_7]; decide
theorem expo_4 : expo 2 4 - expo 2 2 - expo 2 (4 - 2) = 1 := by
  have h2 : expo 2 2 = 1 := by
    rw [expo_step (by omega) (by omega)]
    show 2 / 2 + expo 2 1 = 1
    rw [expo_step (by omega) (by omega)]
    show 2 / 2 + (1 / 2 + expo 2 0) = 1
    rw [expo_zero]
  have h4 : expo 2 4 = 3 := by
    rw [expo_step (by omega) (by omega)]
    show 4 / 2 + expo 2 2 = 3
    rw [h2]
  rw [h4, h2]
theorem luc_any {p n k : Nat} (hp : Prime p) : luc p n k = luc p (n / p) (k / p) * luc p (n % p) (k % p) % p := by
  rw [luc_eq hp, luc_eq hp, luc_eq hp, lucas hp n k, Lu, Nat.mul_mod]
theorem luc_lt {p n k : Nat} (hp : Prime p) : luc p n k < p := by rw [luc_eq hp]; exact Nat.mod_lt _ hp.pos
theorem luc_gt {p n k : Nat} (hp : Prime p) (h : n % p < k % p) : luc p n k = 0 := by
  rw [luc_eq hp, lucas hp n k, Lu, C_gt _ _ h]; simp
end Wm
namespace Go.Proofs.Ytbnmdkboidpmaaa
open Go.RowKit Go.BigFrame

theorem chooses_l (w : World) : Calls Try.prog 16 #[] w fun e w' => e = .returned (.bool true) ∧ Ext w w' := by
  have c1 := fun w : World => Of_ok 5 2 (by omega) (by omega) w
  rw [show Wm.C 5 2 = 10 by decide] at c1
  have C1 := hide c1
  clear c1
  go_enter Try.func16, Try.ntmps16
  go_wp2_with fail
  refine (unhide C1 _).mono ?_
  rintro e w' ⟨rfl, E⟩
  go_wp2
  go_ret
  exact ⟨rfl, E⟩
theorem times_422 (w : World) : Calls Try.prog 19 #[.int .i64 4, .int .i64 2, .int .i64 2] w fun e w' => e = .returned (.tuple #[.int .i64 1, .int .i64 0]) ∧ w' = w := by
  have := Times_ok 4 2 2 (by omega) (by omega) (by omega) Wm.prime_2 w
  rw [Wm.expo_4] at this
  exact this
theorem mod_527 (w : World) : Calls Try.prog 15 #[.int .i64 5, .int .i64 2, .int .i64 7] w fun e w' => e = .returned (.tuple #[.int .i64 3, .int .i64 0]) ∧ ∃ d, w' = w.drewN d := by
  have := Mod_ok 5 2 7 (by omega) (by omega) (by omega) Wm.prime_7 w
  rw [Wm.luc_527] at this
  exact this

set_option maxRecDepth 100000 in
set_option maxHeartbeats 4000000 in
theorem kummer_any (n k p : Int) (w : World) :
    Calls Try.prog 4 #[.int .i64 n, .int .i64 k, .int .i64 p] w fun e w' => e = .returned (.bool true) ∧ Ext w w' := by
  have T0 := hide times_422
  by_cases hg : goodC n k p
  · obtain ⟨h1, h2, h3, h4, h5, h6, h7⟩ := hg
    obtain ⟨N, rfl⟩ := Int.eq_ofNat_of_zero_le h1
    obtain ⟨K, rfl⟩ := Int.eq_ofNat_of_zero_le h3
    obtain ⟨P, rfl⟩ := Int.eq_ofNat_of_zero_le h5
    have hpr : Wm.Prime P := by simpa using h7
    have hN : N ≤ 1000000000 := by omega
    have hK : K ≤ N := by omega
    have hP : P ≤ 1000 := by omega
    have hp1 := hpr.1
    have CT := hide (fun w : World => Times_ok N K P hN hK hP hpr w)
    have CM := hide (fun w : World => Mod_ok N K P hN hK hP hpr w)
    have hku := Wm.kummer hpr hK
    have hval := Wm.val_C hpr hK
    rw [Wm.luc_eq hpr] at CM
    have hcp := Wm.C_pos hK
    have CO := hide (fun (h : N ≤ 60) (w : World) => Of_ok N K h hK w)
    have hC60 : N ≤ 60 → Wm.C N K ≤ 1152921504606846976 := fun h => Nat.le_trans (Wm.C_le N K) (Nat.le_trans (Nat.pow_le_pow_right (by omega) h) (by decide))
    have htN : Wm.expo P N - Wm.expo P K - Wm.expo P (N - K) ≤ 1000000000 := by have := Wm.expo_le hp1 N; omega
    have hmP : Wm.C N K % P < P := Nat.mod_lt _ (by omega)
    have hdiv := hide (fun c j (hc : 0 < c) (h : Wm.Val P j c) (hd : c % P = 0) => Wm.val_div hp1 hc h hd)
    have huni := hide (fun c j (h : Wm.Val P j c) (hd : ¬ c % P = 0) => h.unique (Wm.val_zero (p := P) (n := c) (fun hh => hd (Nat.mod_eq_zero_of_dvd hh))))
    generalize Wm.expo P N - Wm.expo P K - Wm.expo P (N - K) = T at *
    have HV := hide hval
    obtain ⟨C, hC⟩ : ∃ C, C = Wm.C N K := ⟨_, rfl⟩
    rw [← hC] at CO hC60 hcp HV
    have hkb : (0 < T ∧ Wm.C N K % P = 0) ∨ (T = 0 ∧ Wm.C N K % P ≠ 0) := by
      by_cases h : 0 < T
      · exact .inl ⟨h, hku.1 h⟩
      · exact .inr ⟨by omega, fun e => h (hku.2 e)⟩
    generalize Wm.C N K % P = M at *
    have P0 : ¬ (P : Int) = 0 := by omega
    have P0B : ((P : Int) == 0) = false := by rw [beq_eq_false_iff_ne]; exact P0
    have P0N : ¬ P = 0 := by omega
    have P2 : ¬ (P : Int) < 2 := by omega
    clear h1 h2 h3 h4 h5 h6 h7 hku hval hC hpr hmP
    have hk2 : ((0 : Int) < (T : Int) ∧ ((M : Int) == 0) = true ∧ decide ((0 : Int) < (T : Int)) = true ∧ decide (0 < T) = true ∧ (M == 0) = true) ∨ (¬ (0 : Int) < (T : Int) ∧ ((M : Int) == 0) = false ∧ decide ((0 : Int) < (T : Int)) = false ∧ decide (0 < T) = false ∧ (M == 0) = false) := by
      rcases hkb with ⟨h, e⟩ | ⟨h, e⟩
      · exact .inl ⟨by omega, by rw [beq_iff_eq]; omega, decide_eq_true (by omega), decide_eq_true h, by rw [beq_iff_eq]; exact e⟩
      · exact .inr ⟨by omega, by rw [beq_eq_false_iff_ne]; omega, decide_eq_false (by omega), decide_eq_false (by omega), by rw [beq_eq_false_iff_ne]; exact e⟩
    clear hkb
    by_cases h60 : N ≤ 60
    · have n60 : ¬ (60 : Int) < (N : Int) := by omega
      have CO' := hide (unhide CO h60)
      have hCb := hC60 h60
      clear CO hC60
      rcases hk2 with ⟨kt, km, kd, ke, kf⟩ | ⟨kt, km, kd, ke, kf⟩
      all_goals
       go_enter Try.func4, Try.ntmps4
       go_wp2_with fail
       refine (unhide T0 _).mono ?_
       rintro e w' ⟨rfl, rfl⟩
       go_wp2_with fail
       refine (unhide CT _).mono ?_
       rintro e w' ⟨rfl, rfl⟩
       go_wp2_with fail
       refine (unhide CM _).mono ?_
       rintro e w1 ⟨rfl, d1, rfl⟩
       go_wp2_with fail
       refine (unhide CO' _).mono ?_
       rintro e w2 ⟨rfl, E2⟩
       have F2 := ((Ext.refl w').drewN d1).trans E2
       clear E2 CT CM CO' T0 hN hK
       go_wp2
       go_loopw [13, 15] (fun c o wr => ∃ (c' a j : Nat), c = .int .i64 c' ∧ o = .int .i64 a ∧ 0 < c' ∧ c' ≤ 1152921504606846976 ∧ a + j = T ∧ Hid (Wm.Val P j c') ∧ wr = w2) (fun c _ _ => (intOf c).toNat)
       case atStart => exact ⟨C, 0, T, rfl, rfl, hcp, hCb, by omega, HV, rfl⟩
       case round =>
         obtain ⟨c', a, j, rfl, rfl, hc0, hc6, haj, hv, rfl⟩ := hrel
         clear HV hcp hCb
         by_cases hm : c' % P = 0
         · obtain ⟨j', rfl, hv'⟩ := unhide hdiv c' j hc0 (unhide hv) hm
           have q1 : (c' : Int) / (P : Int) = ((c' / P : Nat) : Int) := rfl
           have q2 : (c' : Int).tdiv (P : Int) = ((c' / P : Nat) : Int) := rfl
           have q3 : (c' : Int).tmod (P : Int) = 0 := by
             have : (c' : Int).tmod (P : Int) = ((c' % P : Nat) : Int) := rfl
             rw [this, hm]; rfl
           have q4 : (c' : Int) % (P : Int) = 0 := by
             have : (c' : Int) % (P : Int) = ((c' % P : Nat) : Int) := rfl
             rw [this, hm]; rfl
           have hd := Nat.div_lt_self hc0 hp1
           have hpos : 0 < c' / P := Nat.div_pos (Nat.le_of_dvd hc0 (Nat.dvd_of_mod_eq_zero hm)) (by omega)
           have H2 := hide hv'
           generalize c' / P = z at *
           clear hm hv hv' hdiv huni
           go_wp2
           go_roundw
           case rel => exact ⟨z, a + 1, j', rfl, num_eqL (by omega), hpos, by omega, by omega, H2, by first | rfl | trivial⟩
           case measure => simp [intOf]; omega
         · have hj := unhide huni c' j (unhide hv) hm
           subst hj
           have q3 : ¬ (c' : Int).tmod (P : Int) = 0 := by
             have : (c' : Int).tmod (P : Int) = ((c' % P : Nat) : Int) := rfl
             rw [this]; omega
           have q4 : ¬ (c' : Int) % (P : Int) = 0 := by
             have : (c' : Int) % (P : Int) = ((c' % P : Nat) : Int) := rfl
             rw [this]; omega
           obtain rfl : a = T := by omega
           clear hm hv hdiv huni
           go_wp2
           go_ret
           exact ⟨rfl, F2⟩
    · have n60 : (60 : Int) < (N : Int) := by omega
      clear CO hC60 hdiv huni
      rcases hk2 with ⟨kt, km, kd, ke, kf⟩ | ⟨kt, km, kd, ke, kf⟩
      all_goals
        go_enter Try.func4, Try.ntmps4
        go_wp2_with fail
        refine (unhide T0 _).mono ?_
        rintro e w' ⟨rfl, rfl⟩
        go_wp2_with fail
        refine (unhide CT _).mono ?_
        rintro e w' ⟨rfl, rfl⟩
        go_wp2_with fail
        refine (unhide CM _).mono ?_
        rintro e w1 ⟨rfl, d1, rfl⟩
        go_wp2
        go_ret
        exact ⟨rfl, (Ext.refl _).drewN d1⟩
  · have CT := hide (fun w : World => Times_bad n k p hg w)
    have CM := hide (fun w : World => Mod_bad n k p hg w)
    clear hg
    go_enter Try.func4, Try.ntmps4
    go_wp2_with fail
    refine (unhide T0 _).mono ?_
    rintro e w' ⟨rfl, rfl⟩
    go_wp2_with fail
    refine (unhide CT _).mono ?_
    rintro e w' ⟨rfl, rfl⟩
    go_wp2_with fail
    refine (unhide CM _).mono ?_
    rintro e w' ⟨rfl, rfl⟩
    go_wp2
    go_ret
    exact ⟨rfl, Ext.refl _⟩
end Go.Proofs.Ytbnmdkboidpmaaa

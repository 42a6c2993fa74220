/-
  The walk of the law TreeBinds.
-/
import Derived.Test.YtkcmlcomonfoiaaTree4
set_option linter.unusedVariables false
set_option linter.unusedSimpArgs false
namespace Go.Proofs.Ytkcmlcomonfoiaa
open Go.RowKit Go.BigFrame

theorem shows_nonempty {root n k x : Nat} {l : List Nat} (h : 1 < n) (hk : k ^^^ 1 < n) (hs : Wm.shows nd root n k x l = true) : l ≠ [] := fun e => by
  rw [shows_none h hk e] at hs; cases hs
theorem shows_one {root x : Nat} {l : List Nat} (hs : Wm.shows nd root 1 0 x l = true) : x = root := by
  rw [Wm.shows_iff, Wm.climb_end (by omega)] at hs
  simp at hs
  exact hs.1

theorem str_inj {a b : ByteArray} (h : a.toList = b.toList) : a = b := by
  rw [ByteArray.toList_eq, ByteArray.toList_eq] at h
  cases a; cases b
  simpa using h

set_option maxRecDepth 100000 in
set_option maxHeartbeats 4000000 in
theorem binds_any (root : Nat) (n k : Int) (a b : ByteArray) (A : Option Addr) (m c : Nat) (p : List Nat) (B : Option Addr) (m2 c2 : Nat) (q : List Nat) (ha : (a.size : Int) ≤ 9223372036854775807) (hb : (b.size : Int) ≤ 9223372036854775807) (w : World)
    (hp : Longs w A m c p) (hq : Longs w B m2 c2 q) :
    Calls Try.prog 9 #[.int .u64 root, .int .i64 n, .int .i64 k, .string a, .string b, .slice A m c, .slice B m2 c2] w fun e w' => e = .returned (.bool true) ∧ Ext w w' := by
  have T0 := hide trees_any
  by_cases hv : (1 ≤ n ∧ n ≤ 16) ∧ 0 ≤ k ∧ k < n
  · obtain ⟨N, rfl⟩ := Int.eq_ofNat_of_zero_le (show 0 ≤ n by omega)
    obtain ⟨K, rfl⟩ := Int.eq_ofNat_of_zero_le (show 0 ≤ k by omega)
    have hN1 : 1 ≤ N := by omega
    have hN16 : N ≤ 16 := by omega
    have hKN : K < N := by omega
    have C1 := hide (fun (w' : World) (E : Ext w w') => check_any root N K a A m c p w' hN1 hN16 hKN ha (hp.keep E))
    have C2 := hide (fun (w' : World) (E : Ext w w') => check_any root N K b B m2 c2 q w' hN1 hN16 hKN hb (hq.keep E))
    have L1 := hide (fun (w' : World) => Leaf_any a w' ha)
    have L2 := hide (fun (w' : World) => Leaf_any b w' hb)
    have hX : ∀ h : Wm.shows nd root N K (lf a) p = true, m = Wm.need N K := fun h => by rw [← Wm.shows_length h]; exact hp.len.symm
    have hY : ∀ h : Wm.shows nd root N K (lf b) q = true, m2 = Wm.need N K := fun h => by rw [← Wm.shows_length h]; exact hq.len.symm
    have HA : Hid (Wm.shows nd root N K (lf a) p = Wm.shows nd root N K (lf a) p) := hide rfl
    obtain ⟨X, hXe⟩ : ∃ X, X = Wm.shows nd root N K (lf a) p := ⟨_, rfl⟩
    obtain ⟨Y, hYe⟩ : ∃ Y, Y = Wm.shows nd root N K (lf b) q := ⟨_, rfl⟩
    rw [← hXe] at C1 hX
    rw [← hYe] at C2 hY
    clear ha hb hv HA
    have hpc := hp.2
    have hqc := hq.2
    cases X
    · clear hX hY hp hq hXe hYe L1 L2
      go_enter Try.func9, Try.ntmps9
      go_wp2_with fail
      refine (unhide T0 _).mono ?_
      rintro e w1 ⟨rfl, E1⟩
      go_wp2_with fail
      refine (unhide C1 _ E1).mono ?_
      rintro e w2 ⟨rfl, rfl⟩
      go_wp2_with fail
      refine (unhide C2 _ E1).mono ?_
      rintro e w3 ⟨rfl, rfl⟩
      go_wp2
      go_ret
      exact ⟨rfl, E1⟩
    · cases Y
      · clear hX hY hp hq hXe hYe L1 L2
        go_enter Try.func9, Try.ntmps9
        go_wp2_with fail
        refine (unhide T0 _).mono ?_
        rintro e w1 ⟨rfl, E1⟩
        go_wp2_with fail
        refine (unhide C1 _ E1).mono ?_
        rintro e w2 ⟨rfl, rfl⟩
        go_wp2_with fail
        refine (unhide C2 _ E1).mono ?_
        rintro e w3 ⟨rfl, rfl⟩
        go_wp2
        go_ret
        exact ⟨rfl, E1⟩
      · have hmm : m = m2 := (hX rfl).trans (hY rfl).symm
        subst hmm
        have hab := hide (⟨hXe.symm, hYe.symm⟩ : Wm.shows nd root N K (lf a) p = true ∧ Wm.shows nd root N K (lf b) q = true)
        by_cases hs : a = b
        · clear hX hY hp hq hXe hYe L1 L2
          subst hs
          go_enter Try.func9, Try.ntmps9
          go_wp2_with fail
          refine (unhide T0 _).mono ?_
          rintro e w1 ⟨rfl, E1⟩
          go_wp2_with fail
          refine (unhide C1 _ E1).mono ?_
          rintro e w2 ⟨rfl, rfl⟩
          go_wp2_with fail
          refine (unhide C2 _ E1).mono ?_
          rintro e w3 ⟨rfl, rfl⟩
          go_wp2
          go_ret
          exact ⟨rfl, E1⟩
        · have CN := hide Node_any
          have hs1 : (a.toList == b.toList) = false := by rw [beq_eq_false_iff_ne]; exact fun h => hs (str_inj h)
          have hs2 : ¬ a.toList = b.toList := fun h => hs (str_inj h)
          clear hX hY hXe hYe
          go_enter Try.func9, Try.ntmps9
          go_wp2_with fail
          refine (unhide T0 _).mono ?_
          rintro e w1 ⟨rfl, E1⟩
          go_wp2_with fail
          refine (unhide C1 _ E1).mono ?_
          rintro e w2 ⟨rfl, rfl⟩
          go_wp2_with fail
          refine (unhide C2 _ E1).mono ?_
          rintro e w3 ⟨rfl, rfl⟩
          go_wp2_with fail
          refine (unhide L1 _).mono ?_
          rintro e w4 ⟨rfl, rfl⟩
          go_wp2_with fail
          refine (unhide L2 _).mono ?_
          rintro e w5 ⟨rfl, rfl⟩
          by_cases huv : lf a = lf b
          · have huvB : (((lf a : Nat) : Int) == ((lf b : Nat) : Int)) = true := by rw [huv]; simp
            clear hp hq
            go_wp2
            go_ret
            exact ⟨rfl, E1⟩
          · have huvB : (((lf a : Nat) : Int) == ((lf b : Nat) : Int)) = false := by rw [beq_cast, beq_eq_false_iff_ne]; exact huv
            have hp' := hp.keep E1
            have hq' := hq.keep E1
            clear hp hq hs hs1 hs2
            go_wp2
            go_loopw [1, 2, 5, 6, 19, 20] (fun nn kk sp sq uu vv wr => ∃ (n' k' u' v' : Nat) (A' B' : Option Addr) (m' c' d' : Nat) (p' q' : List Nat), 1 ≤ n' ∧ n' ≤ 16 ∧ k' < n' ∧ nn = .int .i64 n' ∧ kk = .int .i64 k' ∧ sp = .slice A' m' c' ∧ sq = .slice B' m' d' ∧
              uu = .int .u64 u' ∧ vv = .int .u64 v' ∧ u' ≠ v' ∧ Longs wr A' m' c' p' ∧ Longs wr B' m' d' q' ∧ Hid (Wm.shows nd root n' k' u' p' = true ∧ Wm.shows nd root n' k' v' q' = true) ∧ Ext w wr) (fun nn _ _ _ _ _ _ => (intOf nn).toNat)
            case atStart => exact ⟨N, K, lf a, lf b, A, B, m, c, c2, p, q, hN1, hN16, hKN, rfl, rfl, rfl, rfl, rfl, rfl, huv, hp', hq', hab, E1⟩
            case round =>
              obtain ⟨n', k', u', v', A', B', m', c', d', p', q', h1, h16, hk', rfl, rfl, rfl, rfl, rfl, rfl, hne, lp, lq, hsh, hext⟩ := hrel
              clear hp' hq' hab huv huvB hpc hqc hN1 hN16 hKN
              by_cases hn : 1 < n'
              · have hx := xor_i64 k' (by omega)
                by_cases hx1 : k' ^^^ 1 < n'
                · have np := shows_nonempty hn hx1 (unhide hsh).1
                  have hm0 : 0 < m' := by
                    have := lp.len
                    cases p' with
                    | nil => exact absurd rfl np
                    | cons x p => simp at this; omega
                  have nq := shows_nonempty hn hx1 (unhide hsh).2
                  obtain ⟨b1, o1, rfl, hb1, hc1⟩ := lp.1.nat (k := 0) hm0
                  obtain ⟨b2, o2, rfl, hb2, hc2⟩ := lq.1.nat (k := 0) hm0
                  rw [Nat.add_zero] at hc1 hc2
                  have hsh2 := unhide hsh
                  rw [shows_step hn hx1 np, shows_step hn hx1 nq] at hsh2
                  have tp := lp.tail' hm0
                  have tq := lq.tail' hm0
                  have hcl := lp.2.1
                  have hdl := lq.2.1
                  have hm0I : ((m' : Int) == 0) = false := by rw [beq_eq_false_iff_ne]; omega
                  have hm0J : ¬ (m' : Int) = 0 := by omega
                  have hm1 : (0 : Int) < (m' : Int) := by omega
                  generalize p'.getD 0 0 = x at *
                  generalize q'.getD 0 0 = y at *
                  generalize p'.tail = pt at *
                  generalize q'.tail = qt at *
                  have HP := hide tp
                  have HQ := hide tq
                  clear lp lq np nq tp tq hsh
                  by_cases hk2 : k' % 2 = 0
                  · rw [if_pos hk2, if_pos hk2] at hsh2
                    have hk1 : ((k' : Int) % 2 == 1) = false := by rw [beq_eq_false_iff_ne]; omega
                    have HSH := hide hsh2
                    clear hsh2
                    have k1 := fun w : World => Node_any u' x w
                    have k2 := fun w : World => Node_any v' y w
                    generalize nd u' x = s at *
                    generalize nd v' y = t at *
                    have N1 := hide k1
                    have N2 := hide k2
                    clear k1 k2 CN
                    by_cases hst : s = t
                    · have hstB : ((s : Int) == (t : Int)) = true := by rw [hst]; simp
                      go_upto_region 15 with fail
                      go_quiet ((go_at_call 28; first | (with_reducible exact Calls.quiet_of (drew_of_same (unhide N1 _))) | (with_reducible exact Calls.quiet_of (drew_of_same (unhide N2 _)))))
                      go_wp2
                      go_ret
                      exact ⟨rfl, hext.drewN _⟩
                    · have hstB : ((s : Int) == (t : Int)) = false := by rw [beq_cast, beq_eq_false_iff_ne]; exact hst
                      go_upto_region 15 with fail
                      go_quiet ((go_at_call 28; first | (with_reducible exact Calls.quiet_of (drew_of_same (unhide N1 _))) | (with_reducible exact Calls.quiet_of (drew_of_same (unhide N2 _)))))
                      go_upto_region 20 with fail
                      go_quiet (fail)
                      go_wp2
                      go_roundw
                      case rel => exact ⟨(n' + 1) / 2, k' / 2, s, t, _, _, _, _, _, pt, qt, by omega, by omega, by omega, num_eq (by omega), num_eq (by omega), rfl, rfl, rfl, rfl, hst, (unhide HP).keep (by first | exact (Ext.refl _).drewN _ | exact ((Ext.refl _).drewN _).drewN _ | exact (((Ext.refl _).drewN _).drewN _).drewN _), (unhide HQ).keep (by first | exact (Ext.refl _).drewN _ | exact ((Ext.refl _).drewN _).drewN _ | exact (((Ext.refl _).drewN _).drewN _).drewN _), HSH, hext.trans (by first | exact (Ext.refl _).drewN _ | exact ((Ext.refl _).drewN _).drewN _ | exact (((Ext.refl _).drewN _).drewN _).drewN _)⟩
                      case measure => simp [intOf]; omega
                  · rw [if_neg hk2, if_neg hk2] at hsh2
                    have hk1 : ((k' : Int) % 2 == 1) = true := by rw [beq_iff_eq]; omega
                    have HSH := hide hsh2
                    clear hsh2
                    have k1 := fun w : World => Node_any u' x w
                    have k2 := fun w : World => Node_any v' y w
                    have k3 := fun w : World => Node_any x u' w
                    have k4 := fun w : World => Node_any y v' w
                    generalize nd u' x = s0 at *
                    generalize nd v' y = t0 at *
                    generalize nd x u' = s at *
                    generalize nd y v' = t at *
                    have N1 := hide k1
                    have N2 := hide k2
                    have N3 := hide k3
                    have N4 := hide k4
                    clear k1 k2 k3 k4 CN
                    by_cases hst : s = t
                    · have hstB : ((s : Int) == (t : Int)) = true := by rw [hst]; simp
                      go_upto_region 15 with fail
                      go_quiet ((go_at_call 28; first | (with_reducible exact Calls.quiet_of (drew_of_same (unhide N1 _))) | (with_reducible exact Calls.quiet_of (drew_of_same (unhide N2 _)))))
                      go_upto_region 17 with fail
                      have FQ := (Ext.refl wr).drewN nq
                      have hc1 := FQ.keep hc1
                      have hc2 := FQ.keep hc2
                      have HP := hide ((unhide HP).keep FQ)
                      have HQ := hide ((unhide HQ).keep FQ)
                      have hext := hext.trans FQ
                      clear FQ
                      generalize wr.drewN nq = wy at *
                      go_quiet ((go_at_call 28; first | (with_reducible exact Calls.quiet_of (drew_of_same (unhide N3 _))) | (with_reducible exact Calls.quiet_of (drew_of_same (unhide N4 _)))))
                      go_wp2
                      go_ret
                      exact ⟨rfl, hext.trans (by first | exact (Ext.refl _).drewN _ | exact ((Ext.refl _).drewN _).drewN _ | exact (((Ext.refl _).drewN _).drewN _).drewN _)⟩
                    · have hstB : ((s : Int) == (t : Int)) = false := by rw [beq_cast, beq_eq_false_iff_ne]; exact hst
                      go_upto_region 15 with fail
                      go_quiet ((go_at_call 28; first | (with_reducible exact Calls.quiet_of (drew_of_same (unhide N1 _))) | (with_reducible exact Calls.quiet_of (drew_of_same (unhide N2 _)))))
                      go_upto_region 17 with fail
                      have FQ := (Ext.refl wr).drewN nq
                      have hc1 := FQ.keep hc1
                      have hc2 := FQ.keep hc2
                      have HP := hide ((unhide HP).keep FQ)
                      have HQ := hide ((unhide HQ).keep FQ)
                      have hext := hext.trans FQ
                      clear FQ
                      generalize wr.drewN nq = wy at *
                      go_quiet ((go_at_call 28; first | (with_reducible exact Calls.quiet_of (drew_of_same (unhide N3 _))) | (with_reducible exact Calls.quiet_of (drew_of_same (unhide N4 _)))))
                      go_upto_region 20 with fail
                      go_quiet (fail)
                      go_wp2
                      go_roundw
                      case rel => exact ⟨(n' + 1) / 2, k' / 2, s, t, _, _, _, _, _, pt, qt, by omega, by omega, by omega, num_eq (by omega), num_eq (by omega), rfl, rfl, rfl, rfl, hst, (unhide HP).keep (by first | exact (Ext.refl _).drewN _ | exact ((Ext.refl _).drewN _).drewN _ | exact (((Ext.refl _).drewN _).drewN _).drewN _), (unhide HQ).keep (by first | exact (Ext.refl _).drewN _ | exact ((Ext.refl _).drewN _).drewN _ | exact (((Ext.refl _).drewN _).drewN _).drewN _), HSH, hext.trans (by first | exact (Ext.refl _).drewN _ | exact ((Ext.refl _).drewN _).drewN _ | exact (((Ext.refl _).drewN _).drewN _).drewN _)⟩
                      case measure => simp [intOf]; omega
                · have hsh2 : Wm.shows nd root ((n' + 1) / 2) (k' / 2) u' p' = true ∧ Wm.shows nd root ((n' + 1) / 2) (k' / 2) v' q' = true := by
                    rw [← shows_skip hn hx1, ← shows_skip hn hx1]
                    exact unhide hsh
                  have HSH := hide hsh2
                  clear hsh hsh2
                  go_wp2
                  go_roundw
                  case rel => exact ⟨(n' + 1) / 2, k' / 2, u', v', A', B', m', c', d', p', q', by omega, by omega, by omega, num_eq (by omega), num_eq (by omega), rfl, rfl, rfl, rfl, hne, lp, lq, HSH, hext⟩
                  case measure => simp [intOf]; omega
              · exfalso
                obtain rfl : n' = 1 := by omega
                obtain rfl : k' = 0 := by omega
                have := unhide hsh
                exact hne ((shows_one this.1).trans (shows_one this.2).symm)
  · have hbad : ¬ (1 ≤ n ∧ n ≤ 16) ∨ ¬ (0 ≤ k ∧ k < n) := by omega
    have C1 := hide (fun (s : ByteArray) (P : Value) (w : World) => check_bad root n k s P w hbad)
    obtain ⟨e0, he0, h0⟩ : ∃ e0 : Int, e0 = (if 1 ≤ n ∧ n ≤ 16 then (4 : Int) else 2) ∧ e0 ≠ 0 := ⟨_, rfl, by split <;> omega⟩
    rw [← he0] at C1
    clear he0 hbad hv
    go_enter Try.func9, Try.ntmps9
    go_wp2_with fail
    refine (unhide T0 _).mono ?_
    rintro e w1 ⟨rfl, E1⟩
    go_wp2_with fail
    refine (unhide C1 _ _ _).mono ?_
    rintro e w2 ⟨rfl, rfl⟩
    go_wp2_with fail
    refine (unhide C1 _ _ _).mono ?_
    rintro e w3 ⟨rfl, rfl⟩
    go_wp2
    go_ret
    exact ⟨rfl, E1⟩

theorem binds_law (root : Nat) (n k : Int) (a b : ByteArray) (A : Option Addr) (m c : Nat) (p : List Nat) (B : Option Addr) (m2 c2 : Nat) (q : List Nat) (_ : root < 18446744073709551616) (ha : (a.size : Int) ≤ 140737488351232) (hb : (b.size : Int) ≤ 140737488351232) (w : World)
    (hp : SliceIn w A m c 1 8 (nats .u64 p)) (_ : ∀ x ∈ p, x < 18446744073709551616) (hq : SliceIn w B m2 c2 1 8 (nats .u64 q)) (_ : ∀ x ∈ q, x < 18446744073709551616) :
    Calls Try.prog 9 #[.int .u64 root, .int .i64 n, .int .i64 k, .string a, .string b, .slice A m c, .slice B m2 c2] w fun e w' => e = .returned (.bool true) ∧ Ext w w' :=
  binds_any root n k a b A m c p B m2 c2 q (by omega) (by omega) w ⟨hp.1, hp.2.1, hp.2.2.2.1⟩ ⟨hq.1, hq.2.1, hq.2.2.2.1⟩
end Go.Proofs.Ytkcmlcomonfoiaa

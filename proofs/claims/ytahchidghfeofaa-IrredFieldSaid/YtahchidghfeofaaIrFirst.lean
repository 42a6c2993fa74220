/-
  The contracts of irred.check and irred.First.
-/
import Derived.Test.YtahchidghfeofaaGal11
import Derived.Test.YtahchidghfeofaaIrr1
import Derived.Test.YtahchidghfeofaaPoly5
set_option linter.unusedVariables false
set_option linter.unusedSimpArgs false
namespace Go.Proofs.Ytahchidghfeofaa
open Go.RowKit Go.BigFrame

set_option maxRecDepth 100000 in
set_option maxHeartbeats 1000000 in
/-- Whether so many may be counted. -/
theorem icheck_any (P : Wm.Pr) (h9 : P.p ≤ 997) (n : Nat) (h1 : 1 ≤ n) (h6 : n ≤ 6) (w : World) :
    Calls Try.prog 16 #[.int .i64 P.p, .int .i64 n] w fun e w' => e = .returned (.int .i64 (if 1000000 < Wm.pwN P.p n then 2 else 0)) ∧ ∃ k, w' = w.drewN k := by
  have CF := hide (fun w : World => Field_any (P.p : Int) w)
  rw [errF_yes (⟨P.p, rfl, P.hp, h9⟩)] at CF
  have CP := hide (fun w : World => power_ok P h9 n (by omega) w)
  obtain ⟨v, hv⟩ : ∃ v, v = Wm.pwN P.p n := ⟨_, rfl⟩
  rw [← hv] at CP ⊢
  clear hv
  by_cases hb : 1000000 < v
  · rw [if_pos hb]
    have hbI : decide ((1000000 : Int) < (v : Int)) = true := decide_eq_true (by omega)
    clear hb
    go_enter Try.func16, Try.ntmps16
    go_wp2_with fail
    refine (unhide CF _).mono ?_
    rintro e w1 ⟨rfl, rfl⟩
    go_wp2_with fail
    refine (unhide CP _).mono ?_
    rintro e w2 ⟨rfl, k, rfl⟩
    go_wp2
    go_ret
    exact ⟨rfl, k, rfl⟩
  · rw [if_neg hb]
    have hbI : decide ((1000000 : Int) < (v : Int)) = false := decide_eq_false (by omega)
    clear hb
    go_enter Try.func16, Try.ntmps16
    go_wp2_with fail
    refine (unhide CF _).mono ?_
    rintro e w1 ⟨rfl, rfl⟩
    go_wp2_with fail
    refine (unhide CP _).mono ?_
    rintro e w2 ⟨rfl, k, rfl⟩
    go_wp2
    go_ret
    exact ⟨rfl, k, rfl⟩

def FirstPost (P : Wm.Pr) (n : Nat) (w w' : World) (e : Ending) : Prop := (1000000 < Wm.pwN P.p n ∧ e = .returned (.tuple #[.slice none 0 0, .int .i64 2])) ∨ ∃ (k : Nat) (v : Value), P.p ^ n ≤ 1000000 ∧ Wm.Irr P (Wm.monL P.p n k) ∧ (∀ k', k' < k → ¬ Wm.Irr P (Wm.monL P.p n k')) ∧ e = .returned (.tuple #[v, .int .i64 0]) ∧ Made w' w.heap.size 3 1 v (Wm.monL P.p n k).length (nats .i64 (Wm.monL P.p n k))
set_option maxRecDepth 100000 in
set_option maxHeartbeats 2000000 in
theorem First_ok (P : Wm.Pr) (h9 : P.p ≤ 997) (n : Nat) (h2 : 2 ≤ n) (h5 : n ≤ 5) (w : World) :
    Calls Try.prog 5 #[.int .i64 P.p, .int .i64 n] w fun e w' => FirstPost P n w w' e ∧ Ext w w' := by
  have CK := hide (fun w : World => icheck_any P h9 n (by omega) (by omega) w)
  by_cases hb : 1000000 < Wm.pwN P.p n
  · rw [if_pos hb] at CK
    have HB := hide hb
    clear hb
    go_enter Try.func5, Try.ntmps5
    go_wp2_with fail
    refine (unhide CK _).mono ?_
    rintro e w1 ⟨rfl, k, rfl⟩
    go_wp2
    go_ret2
    exact ⟨.inl ⟨unhide HB, rfl⟩, (Ext.refl w).drewN k⟩
  · rw [if_neg hb] at CK
    have hp := P.pos
    have hpw := Wm.pwN_back hp n (by omega)
    have HPW := hide hpw
    obtain ⟨K, hKl, hKI⟩ := Wm.first_ex P h2 h5 (Wm.ex_all P h9 h2 h5 hpw)
    have HK := hide hKI
    have hKb : K < 1000000 := by omega
    have HPD := hide (fun d (hd : 2 * d + 1 ≤ n + 1) => (show P.p ^ d ≤ 1000000 from Nat.le_trans (Nat.pow_le_pow_right hp (by omega)) hpw))
    clear hb hpw hKl hKI
    go_enter Try.func5, Try.ntmps5
    go_wp2_with fail
    refine (unhide CK _).mono ?_
    rintro e w1 ⟨rfl, k, rfl⟩
    have hE1 := And.intro ((Ext.refl w).drewN k) trivial
    clear CK
    go_wp2
    go_loopw [7] (fun i wr => ∃ k : Nat, k ≤ K ∧ i = .int .i64 k ∧ Hid (∀ k', k' < k → ¬ Wm.Irr P (Wm.monL P.p n k')) ∧ (Ext w wr ∧ True)) (fun i _ => 1000001 - (intOf i).toNat)
    case atStart => exact ⟨0, Nat.zero_le _, rfl, hide (fun k' h => by omega), hE1.1, trivial⟩
    case round =>
      clear hE1
      obtain ⟨k, hk, rfl, HN, hE⟩ := hrel
      have CM := hide (fun w : World => monic_ok P h9 n (by omega) k (by omega) w)
      have HML := hide (show (Wm.monL P.p n k).length = n + 1 from Wm.monL_len _ _ _)
      have HMP := hide (Wm.monL_isP (P := P) n k)
      have HYES := hide (fun (h : Wm.Irr P (Wm.monL P.p n k)) => (show ∀ (v : Value) (w' : World), Made w' w.heap.size 3 1 v (Wm.monL P.p n k).length (nats .i64 (Wm.monL P.p n k)) → FirstPost P n w w' (.returned (.tuple #[v, .int .i64 0])) from fun v w' M => .inr ⟨k, v, unhide HPW, h, unhide HN, rfl, M⟩))
      have HNO := hide (fun (h : ¬ Wm.Irr P (Wm.monL P.p n k)) => (show k + 1 ≤ K ∧ ∀ k', k' < k + 1 → ¬ Wm.Irr P (Wm.monL P.p n k') from by
        refine ⟨?_, fun k' hk' => ?_⟩
        · rcases Nat.lt_or_ge k K with c | c
          · exact c
          · obtain rfl : k = K := by omega
            exact absurd (unhide HK) h
        · by_cases e : k' < k
          · exact unhide HN k' e
          · obtain rfl : k' = k := by omega
            exact h))
      generalize Wm.monL P.p n k = M at *
      go_wp2_with fail
      refine (unhide CM _).mono ?_
      rintro e w4 ⟨⟨v, rfl, MM⟩, EN⟩
      have F4 : Ext wr w4 := Ext.trans (by repeat (first | exact Ext.refl wr | refine Ext.alloc ?_ _ | refine Ext.drew ?_ | refine Ext.drewN ?_ _ | (refine Ext.trans ?_ (plus_ext _ _)) | (refine Ext.setCell ?_ (by have := Ext.size Ext.refl wr; simp; omega) _))) EN
      have hE4 := And.intro (hE.1.trans F4) trivial
      obtain ⟨AM, cM, hv, PM⟩ := MM.pv
      have HMM := hide (MM.mono (Ext.size hE.1))
      subst hv
      have CD := hide (is_irr P h9 AM M.length cM M w4 PM (unhide HMP) (by have := unhide HML; omega) (fun d hd => unhide HPD d (by have := unhide HML; omega)))
      clear MM EN PM CM
      go_wp2_with fail
      refine (unhide CD).mono ?_
      rintro e w5 ⟨⟨b, rfl, hb⟩, F5⟩
      have E5 := And.intro (hE4.1.trans F5) trivial
      have HM5 := hide ((unhide HMM).keep F5)
      clear CD
      by_cases hi : Wm.Irr P M
      · obtain rfl := hb.2 hi
        have HX := hide (unhide HYES hi)
        clear hb hi
        go_wp2
        go_ret2
        exact ⟨unhide HX _ _ (unhide HM5), E5.1⟩
      · obtain rfl : b = false := Bool.eq_false_iff.2 fun e => hi (hb.1 e)
        obtain ⟨hk1, hnn⟩ := unhide HNO hi
        have HNN := hide hnn
        clear hb hi hnn
        go_wp2
        go_roundw
        case rel => exact ⟨k + 1, hk1, by go_num, HNN, E5.1, trivial⟩
        case measure => simp [intOf]; omega
end Go.Proofs.Ytahchidghfeofaa

/-
  The contracts of irred.power, monic, is and Is.
-/
import Derived.Test.YtahchidghfeofaaIrr0
import Derived.Test.YtahchidghfeofaaPoly4
set_option linter.unusedVariables false
set_option linter.unusedSimpArgs false
namespace Wm
/-- p multiplied n times, no further than beyond a million. -/
def pwN (p : Nat) : Nat → Nat
  | 0 => 1
  | i + 1 => if 1000000 < pwN p i then pwN p i else pwN p i * p
theorem pwN_le {p : Nat} (h : p ≤ 997) : ∀ n, pwN p n ≤ 997000000
  | 0 => by show 1 ≤ _; omega
  | n + 1 => by
    have ih := pwN_le h n
    simp only [pwN]
    split
    · exact ih
    · rename_i h1
      have : pwN p n * p ≤ 1000000 * 997 := Nat.mul_le_mul (by omega) h
      omega
theorem pwN_stay {p n : Nat} (h : 1000000 < pwN p n) : ∀ d, pwN p (n + d) = pwN p n
  | 0 => rfl
  | d + 1 => by
    show (if 1000000 < pwN p (n + d) then pwN p (n + d) else pwN p (n + d) * p) = _
    rw [pwN_stay h d, if_pos h]
theorem pwN_small {p : Nat} (hp : 0 < p) : ∀ n, p ^ n ≤ 1000000 → pwN p n = p ^ n
  | 0, _ => rfl
  | n + 1, h => by
    have h1 : p ^ n ≤ p ^ (n + 1) := Nat.pow_le_pow_right hp (by omega)
    have ih := pwN_small hp n (by omega)
    simp only [pwN]
    rw [ih, if_neg (by omega), Nat.pow_succ]
theorem pwN_back {p : Nat} (hp : 0 < p) : ∀ n, pwN p n ≤ 1000000 → p ^ n ≤ 1000000
  | 0, _ => by simp
  | n + 1, h => by
    simp only [pwN] at h
    by_cases h1 : 1000000 < pwN p n
    · rw [if_pos h1] at h; omega
    · rw [if_neg h1, pwN_small hp n (pwN_back hp n (by omega))] at h
      rwa [Nat.pow_succ]
end Wm
namespace Go.Proofs.Ytahchidghfeofaa
open Go.RowKit Go.BigFrame

set_option maxRecDepth 100000 in
set_option maxHeartbeats 1000000 in
theorem power_ok (P : Wm.Pr) (h9 : P.p ≤ 997) (n : Nat) (hn : n ≤ 1000) (w : World) :
    Calls Try.prog 31 #[.int .i64 P.p, .int .i64 n] w fun e w' => e = .returned (.int .i64 ((Wm.pwN P.p n : Nat) : Int)) ∧ ∃ k, w' = w.drewN k := by
  obtain ⟨v, hv⟩ : ∃ v, v = Wm.pwN P.p n := ⟨_, rfl⟩
  rw [← hv]
  have HV := hide hv
  clear hv
  have hp := P.pos
  go_enter Try.func31, Try.ntmps31
  go_wp2
  go_loopw [5, 7] (fun o i wr => ∃ k u : Nat, k ≤ n ∧ i = .int .i64 k ∧ o = .int .i64 u ∧ u ≤ 1000000 ∧ Hid (u = Wm.pwN P.p k) ∧ ∃ d, wr = w.drewN d) (fun _ i _ => n - (intOf i).toNat)
  case atStart => exact ⟨0, 1, Nat.zero_le _, rfl, rfl, by omega, hide rfl, by first | exact ⟨_, rfl⟩ | exact ⟨0, rfl⟩⟩
  case round =>
    obtain ⟨k, u, hk, rfl, rfl, hu, HU, d, rfl⟩ := hrel
    by_cases hlt : k < n
    · have hb : u * P.p ≤ 1000000 * 997 := Nat.mul_le_mul hu h9
      have hbI : (u : Int) * (P.p : Int) ≤ 997000000 := by rw [← Int.natCast_mul]; omega
      have hb0 : 0 ≤ (u : Int) * (P.p : Int) := by rw [← Int.natCast_mul]; omega
      have HS := hide (show u * P.p = Wm.pwN P.p (k + 1) by simp only [Wm.pwN]; rw [← unhide HU, if_neg (by omega)])
      obtain ⟨z, hz⟩ : ∃ z, z = u * P.p := ⟨_, rfl⟩
      have hzI : (u : Int) * (P.p : Int) = (z : Int) := by rw [hz, Int.natCast_mul]
      rw [← hz] at HS hb
      clear hz
      by_cases hbig : 1000000 < z
      · have HF := hide (show v = z by
          rw [unhide HV]
          have h1 := Wm.pwN_stay (p := P.p) (n := k + 1) (by rw [← unhide HS]; exact hbig) (n - (k + 1))
          rw [show k + 1 + (n - (k + 1)) = n by omega] at h1
          rw [h1, unhide HS])
        have hbigI : (1000000 : Int) < (u : Int) * (P.p : Int) := by omega
        go_wp2
        go_ret
        exact ⟨ret_int (by first | (rw [unhide HF]; done) | (rw [unhide HF]; exact hzI)), by first | exact ⟨_, rfl⟩ | exact ⟨0, rfl⟩⟩
      · have hbigI : (u : Int) * (P.p : Int) ≤ 1000000 := by omega
        go_wp2
        go_roundw
        case rel => exact ⟨k + 1, z, by omega, by go_num, by first | rfl | exact num_eqQ hzI, by omega, HS, by first | exact ⟨_, rfl⟩ | exact ⟨0, rfl⟩⟩
        case measure => simp [intOf]; omega
    · obtain rfl : n = k := by omega
      have HF := hide (show v = u by rw [unhide HV, unhide HU])
      go_wp2
      go_ret
      exact ⟨ret_int (by rw [unhide HF]), by first | exact ⟨_, rfl⟩ | exact ⟨0, rfl⟩⟩

/-- The polynomial under way. -/
def monT (p n k t j : Nat) : Nat := if j < t then k / p ^ j % p else if j = n then 1 else 0
theorem monT_end (p n k j : Nat) : monT p n k n j = Wm.monF p n k j := rfl

set_option maxRecDepth 100000 in
set_option maxHeartbeats 1000000 in
theorem monic_ok (P : Wm.Pr) (h9 : P.p ≤ 997) (n : Nat) (hn : n ≤ 1000) (k : Nat) (hk : k ≤ 4611686018427387904) (w : World) :
    Calls Try.prog 17 #[.int .i64 P.p, .int .i64 n, .int .i64 k] w fun e w' => (∃ v, e = .returned v ∧ Made w' w.heap.size 3 1 v (Wm.monL P.p n k).length (nats .i64 (Wm.monL P.p n k))) ∧ Ext w w' := by
  have hp := P.two
  have hmk := mk_int (n + 1) (by omega)
  have hn1 : ((n + 1 : Nat) : Int) = (n : Int) + 1 := by omega
  rw [hn1] at hmk
  have HM : Hid (Made ((w.alloc (.cells (madeCells #[.int .i64 0] (n + 1)) 3)).setCell ⟨w.heap.size, n, none⟩ (.int .i64 1)) w.heap.size 3 1 (.slice (some ⟨w.heap.size, 0, none⟩) (n + 1) (n + 1)) (n + 1) (nats .i64 (Wm.mkL (n + 1) (monT P.p n k 0)))) := hide (by
    have h0 := Made.mkq (w := w) (base := w.heap.size) (n + 1) (Nat.le_refl _) (by omega) (fun _ => 0) (fun _ _ => rfl)
    exact h0.setq (by omega) 1 _ fun j hj => by unfold monT; rw [if_neg (by omega)])
  have E0 : Ext w ((w.alloc (.cells (madeCells #[.int .i64 0] (n + 1)) 3)).setCell ⟨w.heap.size, n, none⟩ (.int .i64 1)) := ((Ext.refl w).alloc _).setCell (p := ⟨w.heap.size, n, none⟩) (Nat.le_refl _) _
  have HEQ := hide (show (w.alloc (.cells (madeCells #[.int .i64 0] (n + 1)) 3)).setCell ⟨w.heap.size, n, none⟩ (.int .i64 1) = w.alloc (.cells ((madeCells #[.int .i64 0] (n + 1)).setIfInBounds n (.int .i64 1)) 3) by simp [go_sem])
  have h0 := Made.mkq (w := w) (base := w.heap.size) (n + 1) (Nat.le_refl _) (by omega) (fun _ => 0) (fun _ _ => rfl)
  have c0 := h0.getq (k := n) (by omega)
  have f0 := h0.frozen n
  clear h0
  go_enter Try.func17, Try.ntmps17
  go_wp2
  obtain ⟨g, hg⟩ : ∃ g, g = w.heap.size := ⟨_, rfl⟩
  go_loopw [2, 16] (fun x i wr => ∃ t : Nat, t ≤ n ∧ i = .int .i64 t ∧ x = .int .i64 ((k / P.p ^ t : Nat) : Int) ∧ Hid (Made wr w.heap.size 3 1 (.slice (some ⟨w.heap.size, 0, none⟩) (n + 1) (n + 1)) (n + 1) (nats .i64 (Wm.mkL (n + 1) (monT P.p n k t)))) ∧ (Ext w wr ∧ True)) (fun _ i _ => n - (intOf i).toNat)
  case atStart => exact ⟨0, Nat.zero_le _, rfl, num_eqQ (by rw [Nat.pow_zero, Nat.div_one]), by rw [← unhide HEQ]; exact HM, by rw [← unhide HEQ]; exact E0, trivial⟩
  case round =>
    clear HM E0 c0 f0 hmk hg
    obtain ⟨t, ht, rfl, rfl, HM, hE⟩ := hrel
    by_cases hlt : t < n
    · have hcell := (unhide HM).getq (k := t) (by omega)
      have hfr := (unhide HM).frozen t
      have hq := Nat.div_le_self k (P.p ^ t)
      have HQ := hide (show k / P.p ^ t / P.p = k / P.p ^ (t + 1) by rw [Nat.div_div_eq_div_mul, Nat.pow_succ])
      obtain ⟨z, hz⟩ : ∃ z, z = k / P.p ^ t % P.p := ⟨_, rfl⟩
      have HM2 : Hid (Made (wr.setCell ⟨w.heap.size, t, none⟩ (.int .i64 ((z : Nat) : Int))) w.heap.size 3 1 (.slice (some ⟨w.heap.size, 0, none⟩) (n + 1) (n + 1)) (n + 1) (nats .i64 (Wm.mkL (n + 1) (monT P.p n k (t + 1))))) := hide ((unhide HM).setq (by omega) _ _ fun j hj => by
        unfold monT
        by_cases e : j = t
        · subst e; rw [if_pos (by omega), if_pos rfl, hz]
        · rw [if_neg e]
          by_cases h : j < t
          · rw [if_pos h, if_pos (by omega)]
          · rw [if_neg h, if_neg (by omega)])
      have E2 := And.intro (hE.1.setCell (p := ⟨w.heap.size, t, none⟩) (Nat.le_refl _) (.int .i64 ((z : Nat) : Int))) trivial
      generalize monT P.p n k t t = old at *
      generalize hqq : k / P.p ^ t = q at *
      have hzI : (q : Int) % (P.p : Int) = (z : Int) := by rw [hz]; rfl
      obtain ⟨q2, hq2⟩ : ∃ q2, q2 = q / P.p := ⟨_, rfl⟩
      have hq2I : (q : Int) / (P.p : Int) = (q2 : Int) := by rw [hq2]; rfl
      have hq2b : q2 ≤ q := by rw [hq2]; exact Nat.div_le_self _ _
      rw [← hq2] at HQ
      have hpI : ¬ (P.p : Int) = 0 := by omega
      have ht1 : (t : Int) < (n : Int) + 1 := by omega
      clear hz hqq HM hq2
      go_wp2
      go_roundw
      case rel => exact ⟨t + 1, by omega, by go_num, by first | exact num_eqQ (by rw [← unhide HQ]) | exact num_eqQ (by rw [← unhide HQ]; exact hq2I), HM2, E2⟩
      case measure => simp [intOf]; omega
    · obtain rfl : n = t := by omega
      have HF := hide (show Made wr w.heap.size 3 1 (.slice (some ⟨w.heap.size, 0, none⟩) (n + 1) (n + 1)) (Wm.monL P.p n k).length (nats .i64 (Wm.monL P.p n k)) by rw [Wm.monL_len]; exact unhide HM)
      clear HM
      go_wp2
      go_ret
      exact ⟨⟨_, rfl, unhide HF⟩, hE.1⟩

def IsPost (P : Wm.Pr) (f : List Nat) (e : Ending) : Prop := ∃ b : Bool, e = .returned (.bool b) ∧ (b = true ↔ Wm.Irr P f)
set_option maxRecDepth 100000 in
set_option maxHeartbeats 2000000 in
theorem is_irr (P : Wm.Pr) (h9 : P.p ≤ 997) (A : Option Addr) (n c : Nat) (f : List Nat) (w : World) (R : Pv w A n c f) (hf : Wm.IsP P.p f) (hn : n ≤ 40) (hpw : ∀ d, 2 * d + 1 ≤ n → P.p ^ d ≤ 1000000) :
    Calls Try.prog 18 #[.int .i64 P.p, .slice A n c] w fun e w' => IsPost P f e ∧ Ext w w' := by
  have hlen := R.len
  by_cases h2 : n < 2
  · have hno := hide (show ¬ Wm.Irr P f from fun h => by have := h.1; omega)
    clear R hf hpw
    go_enter Try.func18, Try.ntmps18
    go_wp2
    go_ret
    exact ⟨⟨false, rfl, by simp [unhide hno]⟩, (by repeat (first | exact Ext.refl w | refine Ext.alloc ?_ _ | refine Ext.drew ?_ | refine Ext.drewN ?_ _ | (refine Ext.trans ?_ (plus_ext _ _)) | (refine Ext.setCell ?_ (by have := Ext.size Ext.refl w; simp; omega) _)))⟩
  · have h2I : ¬ (n : Int) < 2 := by omega
    have HR := hide R
    have HPW := hide hpw
    have HP := hide hf
    have HL := hide hlen
    clear R hpw hf hlen
    go_enter Try.func18, Try.ntmps18
    go_wp2
    go_loopw [5] (fun i wr => ∃ d : Nat, 1 ≤ d ∧ d ≤ 41 ∧ i = .int .i64 d ∧ Hid (∀ d', 1 ≤ d' → d' < d → 2 * d' + 1 ≤ f.length → ∀ k, k < P.p ^ d' → ¬ Wm.Fld.Dv (Wm.ser P (Wm.monL P.p d' k)) (Wm.ser P f)) ∧ (Ext w wr ∧ True)) (fun i _ => 60 - (intOf i).toNat)
    case atStart => exact ⟨1, by omega, by omega, rfl, hide (fun d' h1 h2 => by omega), (by repeat (first | exact Ext.refl w | refine Ext.alloc ?_ _ | refine Ext.drew ?_ | refine Ext.drewN ?_ _ | (refine Ext.trans ?_ (plus_ext _ _)) | (refine Ext.setCell ?_ (by have := Ext.size Ext.refl w; simp; omega) _))), trivial⟩
    case round =>
      obtain ⟨d, hd1, hd41, rfl, HN, hE⟩ := hrel
      by_cases hlt : 2 * d + 1 ≤ n
      · have hltI : 2 * (d : Int) ≤ (n : Int) - 1 := by omega
        have hpd := unhide HPW d hlt
        have CP := hide (fun w : World => power_ok P h9 d (by omega) w)
        rw [Wm.pwN_small P.pos d hpd] at CP
        obtain ⟨K, hK⟩ : ∃ K, K = P.p ^ d := ⟨_, rfl⟩
        rw [← hK] at CP hpd
        have HK := hide hK
        clear hK
        go_wp2_with fail
        refine (unhide CP _).mono ?_
        rintro e w3 ⟨rfl, nd, rfl⟩
        have hE2 := And.intro (hE.1.drewN nd) trivial
        go_wp2
        go_loopw [23] (fun j wz => ∃ k : Nat, k ≤ K ∧ j = .int .i64 k ∧ Hid (∀ k', k' < k → ¬ Wm.Fld.Dv (Wm.ser P (Wm.monL P.p d k')) (Wm.ser P f)) ∧ (Ext w wz ∧ True)) (fun j _ => K - (intOf j).toNat)
        case atStart => exact ⟨0, Nat.zero_le _, rfl, hide (fun k' h => by omega), hE2.1, trivial⟩
        case round =>
          clear hE hE2
          obtain ⟨k, hk, rfl, HNK, hE⟩ := hrel
          by_cases hkK : k < K
          · have CM := hide (fun w : World => monic_ok P h9 d (by omega) k (by omega) w)
            have HML := hide (show (Wm.monL P.p d k).length = d + 1 from Wm.monL_len _ _ _)
            have HMP := hide (Wm.monL_isP (P := P) d k)
            have HYES := hide (fun (h : Wm.Fld.Dv (Wm.ser P (Wm.monL P.p d k)) (Wm.ser P f)) => (show ¬ Wm.Irr P f from fun hi => hi.2 d hd1 (by have := unhide HL; omega) k (by rw [← unhide HK]; exact hkK) h))
            have HNO := hide (fun (h : ¬ Wm.Fld.Dv (Wm.ser P (Wm.monL P.p d k)) (Wm.ser P f)) k' (hk' : k' < k + 1) => (show ¬ Wm.Fld.Dv (Wm.ser P (Wm.monL P.p d k')) (Wm.ser P f) from by
              by_cases e : k' < k
              · exact unhide HNK k' e
              · obtain rfl : k' = k := by omega
                exact h))
            generalize Wm.monL P.p d k = M at *
            go_wp2_with fail
            refine (unhide CM _).mono ?_
            rintro e w4 ⟨⟨v, rfl, MM⟩, EN⟩
            have F4 : Ext wr w4 := Ext.trans (by repeat (first | exact Ext.refl wr | refine Ext.alloc ?_ _ | refine Ext.drew ?_ | refine Ext.drewN ?_ _ | (refine Ext.trans ?_ (plus_ext _ _)) | (refine Ext.setCell ?_ (by have := Ext.size Ext.refl wr; simp; omega) _))) EN
            obtain ⟨AM, cM, rfl, PM⟩ := MM.pv
            have CD := hide (Divided_ok P h9 A AM n c M.length cM f M w4 ((unhide HR).keep (hE.1.trans F4)) PM (unhide HP) (by omega) (unhide HMP) (by have := unhide HML; omega) (by have := unhide HML; omega))
            clear MM EN PM CM
            go_wp2_with fail
            refine (unhide CD).mono ?_
            rintro e w5 ⟨⟨q, r, v, u, hD, rfl, M1, M2, -⟩, F5⟩
            obtain ⟨Ar, cr, rfl, -⟩ := M2.pv
            have hnil := hD.nil_iff (unhide HMP)
            have E5 := And.intro (hE.1.trans (F4.trans F5)) trivial
            clear M1 M2 hD CD
            by_cases hr0 : r.length = 0
            · have HX := hide (unhide HYES (hnil.1 (List.eq_nil_of_length_eq_zero hr0)))
              clear hnil HYES HNO
              go_wp2
              go_ret
              exact ⟨⟨false, rfl, by simp [unhide HX]⟩, (by repeat (first | exact E5.1 | refine Ext.alloc ?_ _ | refine Ext.drew ?_ | refine Ext.drewN ?_ _ | (refine Ext.trans ?_ (plus_ext _ _)) | (refine Ext.setCell ?_ (by have := Ext.size E5.1; simp; omega) _)))⟩
            · have HX := hide (unhide HNO (fun h => hr0 (by rw [hnil.2 h]; rfl)))
              have hrI : ((r.length : Int) == 0) = false := by rw [beq_eq_false_iff_ne]; omega
              clear hnil HYES HNO
              go_wp2
              go_roundw
              case rel => exact ⟨k + 1, by omega, by go_num, HX, (by repeat (first | exact E5.1 | refine Ext.alloc ?_ _ | refine Ext.drew ?_ | refine Ext.drewN ?_ _ | (refine Ext.trans ?_ (plus_ext _ _)) | (refine Ext.setCell ?_ (by have := Ext.size E5.1; simp; omega) _))), trivial⟩
              case measure => simp [intOf]; omega
          · obtain rfl : K = k := by omega
            have HX : Hid (∀ d', 1 ≤ d' → d' < d + 1 → 2 * d' + 1 ≤ f.length → ∀ k, k < P.p ^ d' → ¬ Wm.Fld.Dv (Wm.ser P (Wm.monL P.p d' k)) (Wm.ser P f)) := hide (fun d' h1 h2 h3 k' h4 => by
              by_cases e : d' < d
              · exact unhide HN d' h1 e h3 k' h4
              · obtain rfl : d' = d := by omega
                exact unhide HNK k' (by rw [unhide HK]; exact h4))
            go_wp2
            go_roundw
            case rel => exact ⟨d + 1, by omega, by omega, by go_num, HX, (by repeat (first | exact hE.1 | refine Ext.alloc ?_ _ | refine Ext.drew ?_ | refine Ext.drewN ?_ _ | (refine Ext.trans ?_ (plus_ext _ _)) | (refine Ext.setCell ?_ (by have := Ext.size hE.1; simp; omega) _))), trivial⟩
            case measure => simp [intOf]; omega
      · have hltI : ¬ 2 * (d : Int) ≤ (n : Int) - 1 := by omega
        have HX := hide (show Wm.Irr P f from ⟨by have := unhide HL; omega, fun d' h1 h3 k' h4 => unhide HN d' h1 (by have := unhide HL; omega) h3 k' h4⟩)
        go_wp2
        go_ret
        exact ⟨⟨true, rfl, by simp [unhide HX]⟩, (by repeat (first | exact hE.1 | refine Ext.alloc ?_ _ | refine Ext.drew ?_ | refine Ext.drewN ?_ _ | (refine Ext.trans ?_ (plus_ext _ _)) | (refine Ext.setCell ?_ (by have := Ext.size hE.1; simp; omega) _)))⟩

end Go.Proofs.Ytahchidghfeofaa

/-
  The contracts of poly.Product and Mul.
-/
import Derived.Test.YtahchidghfeofaaPoly2
set_option linter.unusedVariables false
set_option linter.unusedSimpArgs false
namespace Wm
/-- The product under way: i rows and t terms of the next. -/
def rowT (p : Nat) (f g : List Nat) (i t j : Nat) : Nat := if j < i + t then rowm p f g (i + 1) j else rowm p f g i j
theorem rowT_zero (p : Nat) (f g : List Nat) (i j : Nat) : rowT p f g i 0 j = rowm p f g i j := by
  unfold rowT
  split
  · simp only [rowm]; rw [if_neg (by omega)]
  · rfl
theorem rowT_at (p : Nat) (f g : List Nat) (i t : Nat) : rowT p f g i t (i + t) = rowm p f g i (i + t) := by unfold rowT; rw [if_neg (by omega)]
theorem rowT_step (p : Nat) (f g : List Nat) (i t j : Nat) : rowT p f g i (t + 1) j = if j = i + t then (rowm p f g i (i + t) + f.getD i 0 * g.getD t 0) % p else rowT p f g i t j := by
  unfold rowT
  by_cases e : j = i + t
  · subst e
    rw [if_pos (by omega), if_pos rfl]
    simp only [rowm]
    rw [if_pos (by omega), show i + t - i = t by omega]
  · rw [if_neg e]
    by_cases h : j < i + t
    · rw [if_pos h, if_pos (by omega)]
    · rw [if_neg h, if_neg (by omega)]
theorem rowT_done {p : Nat} (hp : 0 < p) (f g : List Nat) (i j : Nat) : rowT p f g i g.length j = rowm p f g (i + 1) j := by
  unfold rowT
  split
  · rfl
  · rw [rowm_off hp (by omega)]
end Wm
namespace Go.Proofs.Ytahchidghfeofaa
open Go.RowKit Go.BigFrame

set_option maxRecDepth 100000 in
set_option maxHeartbeats 2000000 in
theorem Product_ok (P : Wm.Pr) (h9 : P.p ≤ 997) (A B : Option Addr) (n c m d : Nat) (f g : List Nat) (w : World) (R : Pv w A n c f) (S : Pv w B m d g) (hf : ∀ x ∈ f, x < P.p) (hn : n ≤ 100) (hg : ∀ x ∈ g, x < P.p) (hm : m ≤ 100) :
    Calls Try.prog 23 #[.int .i64 P.p, .slice A n c, .slice B m d] w fun e w' => (∃ v, e = .returned v ∧ Made w' w.heap.size 3 1 v (Wm.mulL P.p f g).length (nats .i64 (Wm.mulL P.p f g))) ∧ Ext w w' := by
  have h1 := R.len
  have h2 := S.len
  obtain ⟨F, hF⟩ : ∃ F, F = Wm.mulL P.p f g := ⟨_, rfl⟩
  rw [← hF]
  have HF := hide hF
  have hp := P.pos
  have hlf := hide (Wm.getD_lt_of hp hf)
  have hlg := hide (Wm.getD_lt_of hp hg)
  have HR := hide R
  have HS := hide S
  have HL1 := hide h1
  have HL2 := hide h2
  clear R S hf hg hF h1 h2
  by_cases h0 : n = 0 ∨ m = 0
  · have HA := hide (show F = [] by rw [unhide HF]; unfold Wm.mulL; rw [unhide HL1, unhide HL2, if_pos h0])
    by_cases hn0 : n = 0
    · subst hn0
      go_enter Try.func23, Try.ntmps23
      go_wp2
      go_ret
      exact ⟨⟨_, rfl, by rw [unhide HA]; exact Made.nil⟩, (by repeat (first | exact Ext.refl w | refine Ext.alloc ?_ _ | refine Ext.drew ?_ | refine Ext.drewN ?_ _ | (refine Ext.trans ?_ (plus_ext _ _)) | (refine Ext.setCell ?_ (by have := Ext.size Ext.refl w; simp; omega) _)))⟩
    · obtain rfl : m = 0 := by omega
      have hnI : ((n : Int) == 0) = false := by rw [beq_eq_false_iff_ne]; omega
      go_enter Try.func23, Try.ntmps23
      go_wp2
      go_ret
      exact ⟨⟨_, rfl, by rw [unhide HA]; exact Made.nil⟩, (by repeat (first | exact Ext.refl w | refine Ext.alloc ?_ _ | refine Ext.drew ?_ | refine Ext.drewN ?_ _ | (refine Ext.trans ?_ (plus_ext _ _)) | (refine Ext.setCell ?_ (by have := Ext.size Ext.refl w; simp; omega) _)))⟩
  · obtain ⟨L, hL⟩ : ∃ L, L + 1 = n + m := ⟨n + m - 1, by omega⟩
    have HA : Hid (F = Wm.trimL (Wm.mkL L (Wm.rowm P.p f g n))) := hide (by rw [unhide HF]; unfold Wm.mulL; rw [unhide HL1, unhide HL2, if_neg h0, show n + m - 1 = L by omega])
    have hn0 : 0 < n := by omega
    have hm0 : 0 < m := by omega
    have hnI : ((n : Int) == 0) = false := by rw [beq_eq_false_iff_ne]; omega
    have hmI : ((m : Int) == 0) = false := by rw [beq_eq_false_iff_ne]; omega
    have hLI : (n : Int) + (m : Int) - 1 = (L : Int) := by omega
    have hmk := mk_int L (by omega)
    have HM : Hid (Made (w.alloc (.cells (madeCells #[.int .i64 0] L) 3)) w.heap.size 3 1 (.slice (some ⟨w.heap.size, 0, none⟩) L L) L (nats .i64 (Wm.mkL L (Wm.rowm P.p f g 0)))) := hide (Made.mkq L (Nat.le_refl _) (by omega) _ (fun _ _ => rfl))
    clear h0
    go_enter Try.func23, Try.ntmps23
    go_wp2
    go_loopw [29] (fun i wr => ∃ k : Nat, k ≤ n ∧ i = .int .i64 k ∧ Hid (Made wr w.heap.size 3 1 (.slice (some ⟨w.heap.size, 0, none⟩) L L) L (nats .i64 (Wm.mkL L (Wm.rowm P.p f g k)))) ∧ Ext w wr) (fun i _ => n - (intOf i).toNat)
    case atStart => exact ⟨0, Nat.zero_le _, rfl, HM, (by repeat (first | exact Ext.refl w | refine Ext.alloc ?_ _ | refine Ext.drew ?_ | refine Ext.drewN ?_ _ | (refine Ext.trans ?_ (plus_ext _ _)) | (refine Ext.setCell ?_ (by have := Ext.size Ext.refl w; simp; omega) _)))⟩
    case round =>
      clear HM hmk
      obtain ⟨k, hk, rfl, HM, hext⟩ := hrel
      by_cases hlt : k < n
      · obtain ⟨b, o, rfl, hb, hc⟩ := ((unhide HR).keep hext).row.nat (k := k) hlt
        have HX := hide (show f.getD k 0 < P.p from unhide hlf k)
        have HM1 : Hid (Made wr w.heap.size 3 1 (.slice (some ⟨w.heap.size, 0, none⟩) L L) L (nats .i64 (Wm.mkL L (Wm.rowT P.p f g k 0)))) := hide (by
          rw [Wm.mkL_congr fun j _ => Wm.rowT_zero P.p f g k j]
          exact unhide HM)
        obtain ⟨x, hx⟩ : ∃ x, x = f.getD k 0 := ⟨_, rfl⟩
        rw [← hx] at hc HX
        have HXE := hide hx
        clear HM hx
        go_wp2
        go_loopw [36] (fun i wz => ∃ t : Nat, t ≤ m ∧ i = .int .i64 t ∧ Hid (Made wz w.heap.size 3 1 (.slice (some ⟨w.heap.size, 0, none⟩) L L) L (nats .i64 (Wm.mkL L (Wm.rowT P.p f g k t)))) ∧ Ext w wz) (fun i _ => m - (intOf i).toNat)
        case atStart => exact ⟨0, Nat.zero_le _, rfl, HM1, hext⟩
        case round =>
          clear HM1 hext hc
          obtain ⟨t, ht, rfl, HM, hext⟩ := hrel
          by_cases htm : t < m
          · obtain ⟨b2, o2, rfl, hb2, hc2⟩ := ((unhide HS).keep hext).row.nat (k := t) htm
            have hcell := (unhide HM).getq (k := k + t) (by omega)
            rw [Wm.rowT_at] at hcell
            have hfr := (unhide HM).frozen (k + t)
            obtain ⟨z2, hz2⟩ : ∃ z2, z2 = (Wm.rowm P.p f g k (k + t) + f.getD k 0 * g.getD t 0) % P.p := ⟨_, rfl⟩
            have HM2 : Hid (Made (wr.setCell ⟨w.heap.size, k + t, none⟩ (.int .i64 ((z2 : Nat) : Int))) w.heap.size 3 1 (.slice (some ⟨w.heap.size, 0, none⟩) L L) L (nats .i64 (Wm.mkL L (Wm.rowT P.p f g k (t + 1))))) := hide ((unhide HM).setq (by omega) _ _ fun j _ => by
              rw [hz2]; exact Wm.rowT_step P.p f g k t j)
            have E2 := hext.setCell (p := ⟨w.heap.size, k + t, none⟩) (Nat.le_refl _) (.int .i64 ((z2 : Nat) : Int))
            have hz := Wm.rowm_lt hp f g k (k + t)
            have hy := unhide hlg t
            rw [← unhide HXE] at hz2
            generalize Wm.rowm P.p f g k (k + t) = z at *
            generalize g.getD t 0 = y at *
            have hx := unhide HX
            have hxy : x * y ≤ 997 * 997 := Nat.mul_le_mul (by omega) (by omega)
            have hxyI : ((x * y : Nat) : Int) = (x : Int) * (y : Int) := Int.natCast_mul x y
            have hb1 : (x : Int) * (y : Int) ≤ 994009 := by omega
            have hb0 : 0 ≤ (x : Int) * (y : Int) := by omega
            have HZ : ((z : Int) + (x : Int) * (y : Int)) % (P.p : Int) = (z2 : Int) := by
              rw [hz2, ← hxyI, ← Int.natCast_add]; rfl
            have hktL : k + t < L := by omega
            clear HM hz2 hxy hxyI
            go_wp2
            go_roundw
            case rel => exact ⟨t + 1, by omega, by go_num, HM2, E2⟩
            case measure => simp [intOf]; omega
          · obtain rfl : t = m := by omega
            have HM2 : Hid (Made wr w.heap.size 3 1 (.slice (some ⟨w.heap.size, 0, none⟩) L L) L (nats .i64 (Wm.mkL L (Wm.rowm P.p f g (k + 1))))) := hide (by
              have h2 := unhide HM
              have e : ∀ j, Wm.rowT P.p f g k t j = Wm.rowm P.p f g (k + 1) j := fun j => by
                have := Wm.rowT_done hp f g k j
                rwa [unhide HL2] at this
              rwa [Wm.mkL_congr fun j _ => e j] at h2)
            clear HM
            go_wp2
            go_roundw
            case rel => exact ⟨k + 1, by omega, by go_num, HM2, hext⟩
            case measure => simp [intOf]; omega
      · obtain rfl : k = n := by omega
        have CT := hide (Trim_ok (some ⟨w.heap.size, 0, none⟩) L L _ wr (unhide HM).pvq (by omega))
        rw [← unhide HA] at CT
        clear HM
        go_wp2_with fail
        refine (unhide CT).mono ?_
        rintro e w3 ⟨⟨v, rfl, hM⟩, E3⟩
        have HM3 := hide (hM.mono (Ext.size hext))
        clear hM
        go_wp2
        go_ret
        exact ⟨⟨_, rfl, unhide HM3⟩, Ext.trans hext E3⟩

set_option maxRecDepth 100000 in
set_option maxHeartbeats 1000000 in
theorem Mul_ok (P : Wm.Pr) (h9 : P.p ≤ 997) (A B : Option Addr) (n c m d : Nat) (f g : List Nat) (w : World) (R : Pv w A n c f) (S : Pv w B m d g) (hf : Wm.IsP P.p f) (hn : n ≤ 40) (hg : Wm.IsP P.p g) (hm : m ≤ 40) (hl : (Wm.mulL P.p f g).length ≤ 40) :
    Calls Try.prog 10 #[.int .i64 P.p, .slice A n c, .slice B m d] w fun e w' => (∃ v, e = .returned (.tuple #[v, .int .i64 0]) ∧ Made w' w.heap.size 3 1 v (Wm.mulL P.p f g).length (nats .i64 (Wm.mulL P.p f g))) ∧ Ext w w' := by
  have CK := hide (fun (W : World) (E : Ext w W) => checks_ok P h9 A B n c m d f g W (R.keep E) (S.keep E) hf hn hg hm)
  have CP := hide (fun (W : World) (E : Ext w W) => Product_ok P h9 A B n c m d f g W (R.keep E) (S.keep E) hf.1 (by omega) hg.1 (by omega))
  generalize Wm.mulL P.p f g = F at *
  clear R S hf hg
  go_enter Try.func10, Try.ntmps10
  go_wp2_with fail
  refine (unhide CK _ (by repeat (first | exact Ext.refl w | refine Ext.alloc ?_ _ | refine Ext.drew ?_ | refine Ext.drewN ?_ _ | (refine Ext.trans ?_ (plus_ext _ _)) | (refine Ext.setCell ?_ (by have := Ext.size Ext.refl w; simp; omega) _)))).mono ?_
  rintro e w1 ⟨rfl, E1⟩
  go_wp2_with fail
  refine (unhide CP _ (by repeat (first | exact E1 | refine Ext.alloc ?_ _ | refine Ext.drew ?_ | refine Ext.drewN ?_ _ | (refine Ext.trans ?_ (plus_ext _ _)) | (refine Ext.setCell ?_ (by have := Ext.size E1; simp; omega) _)))).mono ?_
  rintro e w2 ⟨⟨v, rfl, hM⟩, E2'⟩
  have E2 : Ext w w2 := Ext.trans (by repeat (first | exact E1 | refine Ext.alloc ?_ _ | refine Ext.drew ?_ | refine Ext.drewN ?_ _ | (refine Ext.trans ?_ (plus_ext _ _)) | (refine Ext.setCell ?_ (by have := Ext.size E1; simp; omega) _))) E2'
  obtain ⟨A2, c2, rfl, PV⟩ := hM.pv
  have HM := hide (hM.mono (Ext.size (by repeat (first | exact E1 | refine Ext.alloc ?_ _ | refine Ext.drew ?_ | refine Ext.drewN ?_ _ | (refine Ext.trans ?_ (plus_ext _ _)) | (refine Ext.setCell ?_ (by have := Ext.size E1; simp; omega) _)))))
  clear hM PV E2'
  go_wp2
  go_ret2
  exact ⟨⟨_, rfl, unhide HM⟩, (by repeat (first | exact E2 | refine Ext.alloc ?_ _ | refine Ext.drew ?_ | refine Ext.drewN ?_ _ | (refine Ext.trans ?_ (plus_ext _ _)) | (refine Ext.setCell ?_ (by have := Ext.size E2; simp; omega) _)))⟩

set_option maxRecDepth 100000 in
set_option maxHeartbeats 1000000 in
theorem Mul_large (P : Wm.Pr) (h9 : P.p ≤ 997) (A B : Option Addr) (n c m d : Nat) (f g : List Nat) (w : World) (R : Pv w A n c f) (S : Pv w B m d g) (hf : Wm.IsP P.p f) (hn : n ≤ 40) (hg : Wm.IsP P.p g) (hm : m ≤ 40) (hl : 40 < (Wm.mulL P.p f g).length) :
    Calls Try.prog 10 #[.int .i64 P.p, .slice A n c, .slice B m d] w fun e w' => e = .returned (.tuple #[.slice none 0 0, .int .i64 2]) ∧ Ext w w' := by
  have CK := hide (fun (W : World) (E : Ext w W) => checks_ok P h9 A B n c m d f g W (R.keep E) (S.keep E) hf hn hg hm)
  have CP := hide (fun (W : World) (E : Ext w W) => Product_ok P h9 A B n c m d f g W (R.keep E) (S.keep E) hf.1 (by omega) hg.1 (by omega))
  generalize Wm.mulL P.p f g = F at *
  clear R S hf hg
  go_enter Try.func10, Try.ntmps10
  go_wp2_with fail
  refine (unhide CK _ (by repeat (first | exact Ext.refl w | refine Ext.alloc ?_ _ | refine Ext.drew ?_ | refine Ext.drewN ?_ _ | (refine Ext.trans ?_ (plus_ext _ _)) | (refine Ext.setCell ?_ (by have := Ext.size Ext.refl w; simp; omega) _)))).mono ?_
  rintro e w1 ⟨rfl, E1⟩
  go_wp2_with fail
  refine (unhide CP _ (by repeat (first | exact E1 | refine Ext.alloc ?_ _ | refine Ext.drew ?_ | refine Ext.drewN ?_ _ | (refine Ext.trans ?_ (plus_ext _ _)) | (refine Ext.setCell ?_ (by have := Ext.size E1; simp; omega) _)))).mono ?_
  rintro e w2 ⟨⟨v, rfl, hM⟩, E2'⟩
  have E2 : Ext w w2 := Ext.trans (by repeat (first | exact E1 | refine Ext.alloc ?_ _ | refine Ext.drew ?_ | refine Ext.drewN ?_ _ | (refine Ext.trans ?_ (plus_ext _ _)) | (refine Ext.setCell ?_ (by have := Ext.size E1; simp; omega) _))) E2'
  obtain ⟨A2, c2, rfl, PV⟩ := hM.pv
  clear hM PV E2'
  go_wp2
  go_ret2
  exact ⟨rfl, (by repeat (first | exact E2 | refine Ext.alloc ?_ _ | refine Ext.drew ?_ | refine Ext.drewN ?_ _ | (refine Ext.trans ?_ (plus_ext _ _)) | (refine Ext.setCell ?_ (by have := Ext.size E2; simp; omega) _)))⟩
end Go.Proofs.Ytahchidghfeofaa

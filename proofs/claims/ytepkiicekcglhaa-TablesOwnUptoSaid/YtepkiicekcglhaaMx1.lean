/-
  The contract of matrix.Check.
-/
import Derived.Test.YtepkiicekcglhaaTab
import Derived.Test.YtepkiicekcglhaaField1
import Derived.Test.YtepkiicekcglhaaLaw
import Derived.BigRegion
import Derived.Deep.Cut
import Derived.Deep.CutRange
set_option linter.unusedVariables false
set_option linter.unusedSimpArgs false
namespace Go.Proofs.Ytepkiicekcglhaa
open Go.RowKit Go.BigFrame

theorem num_eqX {K : IntKind} {a b : Int} (h : a = b) : Value.int K a = Value.int K b := by rw [h]
/-- A row, the first i of them, is of another length than the first. -/
def rag (ln : Nat → Nat) : Nat → Bool
  | 0 => false
  | i + 1 => rag ln i || decide (ln i ≠ ln 0)
theorem rag_no {ln : Nat → Nat} : ∀ {n : Nat}, rag ln n = false → ∀ i, i < n → ln i = ln 0
  | 0, _, i, h => by omega
  | n + 1, h, i, hi => by
    simp only [rag, Bool.or_eq_false_iff] at h
    by_cases e : i = n
    · subst e
      have := of_decide_eq_false h.2
      exact Classical.byContradiction fun hn => this hn
    · exact rag_no h.1 i (by omega)
theorem rag_of {ln : Nat → Nat} : ∀ {n : Nat}, (∀ i, i < n → ln i = ln 0) → rag ln n = false
  | 0, _ => rfl
  | n + 1, h => by
    simp only [rag, rag_of (n := n) fun i hi => h i (by omega), h n (by omega), Bool.false_or]
    simp
theorem rag_mono {ln : Nat → Nat} : ∀ {n x : Nat}, x ≤ n → rag ln x = true → rag ln n = true
  | 0, x, h, hx => by obtain rfl : x = 0 := by omega
                      exact hx
  | n + 1, x, h, hx => by
    by_cases e : x = n + 1
    · subst e; exact hx
    · simp only [rag, rag_mono (show x ≤ n by omega) hx, Bool.true_or]
/-- What Check answers. -/
def chkM (n : Nat) (ln : Nat → Nat) : Int := if n < 1 ∨ 12 < n ∨ ln 0 < 1 ∨ 12 < ln 0 then 2 else if rag ln n = true then 3 else 0
theorem chkM_ok {n : Nat} {ln : Nat → Nat} (h : chkM n ln = 0) : 1 ≤ n ∧ n ≤ 12 ∧ 1 ≤ ln 0 ∧ ln 0 ≤ 12 ∧ ∀ i, i < n → ln i = ln 0 := by
  unfold chkM at h
  by_cases a : n < 1 ∨ 12 < n ∨ ln 0 < 1 ∨ 12 < ln 0
  · rw [if_pos a] at h; omega
  · rw [if_neg a] at h
    by_cases b : rag ln n = true
    · rw [if_pos b] at h; omega
    · exact ⟨by omega, by omega, by omega, by omega, rag_no (by simpa using b)⟩
theorem chkM_of {n : Nat} {ln : Nat → Nat} (h1 : 1 ≤ n) (h2 : n ≤ 12) (h3 : 1 ≤ ln 0) (h4 : ln 0 ≤ 12) (h5 : ∀ i, i < n → ln i = ln 0) : chkM n ln = 0 := by
  unfold chkM
  rw [if_neg (by omega), rag_of h5]
  rfl

set_option maxRecDepth 100000 in
set_option maxHeartbeats 1000000 in
theorem chk_index (A : Option Addr) (n c : Nat) (ra : Nat → Option Addr) (ln cp : Nat → Nat) (M : Nat → Nat → Nat) (bx : Nat) (w : World) (T : Tab w A n ra ln cp M) (p : Nat → Bool)
    (hp : ∀ k, k < n → ∀ W, Ext w W → Calls Try.prog 42 (#[.slice (ra k) (ln k) (cp k)] ++ #[.pointer (some ⟨bx, 0, none⟩)]) W fun e w' => e = .returned (.bool (p k)) ∧ Ext W w') (hm : n ≤ 4611686018427387904) :
    Calls Try.prog 44 #[.slice A n c, .func (.func 42) #[] #[.pointer (some ⟨bx, 0, none⟩)]] w fun e w' => (∃ r : Int, e = .returned (.int .i64 r) ∧ ((r = -1 ∧ ∀ i, i < n → p i = false) ∨ ∃ k : Nat, k < n ∧ r = k ∧ p k = true ∧ ∀ i, i < k → p i = false)) ∧ Ext w w' := by
  have HP := hide hp
  have HT := hide T
  clear hp T
  go_enter Try.func44, Try.ntmps44
  go_wp2
  go_loopw [8] (fun i wr => ∃ k : Nat, k ≤ n ∧ i = .int .i64 k ∧ Hid (∀ j, j < k → p j = false) ∧ Ext w wr) (fun i _ => n - (intOf i).toNat)
  case atStart => exact ⟨0, by omega, rfl, hide (fun j h => absurd h (by omega)), Ext.refl _⟩
  case round =>
    obtain ⟨k, hk, rfl, hz, hext⟩ := hrel
    by_cases hlt : k < n
    · obtain ⟨b, o, rfl, hb, cc⟩ := ((unhide HT).keep hext).hd (by omega)
      have c1 := cc k hlt
      clear cc
      have hpk := unhide HP k hlt
      have hzk := hide (fun (h : p k = false) j (hj : j < k + 1) => (show p j = false from by
        by_cases h' : j < k
        · exact unhide hz j h'
        · obtain rfl : j = k := by omega
          exact h))
      obtain ⟨q, hq⟩ : ∃ q, q = p k := ⟨_, rfl⟩
      rw [← hq] at hpk hzk
      have HQP := hide hq
      clear hq
      generalize ra k = r0 at *
      generalize ln k = l0 at *
      generalize cp k = c0 at *
      have HQ := hide hpk
      clear hpk
      cases q with
      | false =>
        have hz2 := hide (unhide hzk rfl)
        clear hzk
        go_wp2_with (go_at_call 42; refine (unhide HQ _ hext).mono ?_; rintro e w' ⟨rfl, E1⟩)
        go_roundw
        case rel => exact ⟨k + 1, by omega, by go_num, hz2, hext.trans E1⟩
        case measure => simp [intOf]; omega
      | true =>
        clear hzk
        go_wp2_with (go_at_call 42; refine (unhide HQ _ hext).mono ?_; rintro e w' ⟨rfl, E1⟩)
        go_ret
        exact ⟨⟨_, rfl, .inr ⟨k, hlt, rfl, (unhide HQP).symm, unhide hz⟩⟩, hext.trans E1⟩
    · obtain rfl : n = k := by omega
      go_wp2
      go_ret
      exact ⟨⟨_, rfl, .inl ⟨rfl, unhide hz⟩⟩, hext⟩

theorem rag_first {ln : Nat → Nat} {n : Nat} {r : Int} (h : (r = -1 ∧ ∀ i, i < n → decide (ln i ≠ ln 0) = false) ∨ ∃ k : Nat, k < n ∧ r = k ∧ decide (ln k ≠ ln 0) = true ∧ ∀ i, i < k → decide (ln i ≠ ln 0) = false) : decide (0 ≤ r) = rag ln n := by
  rcases h with ⟨rfl, h⟩ | ⟨k, hk, rfl, h1, h2⟩
  · rw [rag_of fun i hi => Classical.byContradiction fun hn => of_decide_eq_false (h i hi) hn]; rfl
  · rw [rag_mono (show k + 1 ≤ n by omega) (by simp only [rag, h1, Bool.or_true])]
    exact decide_eq_true (by omega)

set_option maxRecDepth 100000 in
set_option maxHeartbeats 2000000 in
theorem MCheck_any (A : Option Addr) (n c : Nat) (ra : Nat → Option Addr) (ln cp : Nat → Nat) (M : Nat → Nat → Nat) (w : World) (T : Tab w A n ra ln cp M) (hn : n ≤ 4611686018427387904) :
    Calls Try.prog 24 #[.slice A n c] w fun e w' => e = .returned (.int .i64 (chkM n ln)) ∧ Ext w w' := by
  by_cases h0 : n < 1
  · rw [show chkM n ln = 2 from by unfold chkM; rw [if_pos (.inl h0)]]
    obtain rfl : n = 0 := by omega
    go_enter Try.func24, Try.ntmps24
    go_wp2
    go_ret
    exact ⟨rfl, (by repeat (first | exact Ext.refl w | refine Ext.alloc ?_ _ | refine Ext.drew ?_ | refine Ext.drewN ?_ _ | (refine Ext.trans ?_ (plus_ext _ _)) | (refine Ext.setCell ?_ (by have := Ext.size Ext.refl w; simp; omega) _)))⟩
  · by_cases h12 : 12 < n
    · rw [show chkM n ln = 2 from by unfold chkM; rw [if_pos (.inr (.inl h12))]]
      have h1I : ¬ (n : Int) < 1 := by omega
      have h12I : (12 : Int) < (n : Int) := by omega
      go_enter Try.func24, Try.ntmps24
      go_wp2
      go_ret
      exact ⟨rfl, (Ext.refl w).alloc _⟩
    · obtain ⟨b, o, rfl, hb, hc⟩ := T.hd (by omega)
      have hc0 := hc 0 (by omega)
      rw [Nat.add_zero] at hc0
      have h1I : ¬ (n : Int) < 1 := by omega
      have h12I : ¬ (12 : Int) < (n : Int) := by omega
      obtain ⟨l0, hl0⟩ : ∃ l0, l0 = ln 0 := ⟨_, rfl⟩
      rw [← hl0] at hc0
      have HL0 := hide hl0
      have HT := hide T
      generalize ra 0 = r0 at *
      generalize cp 0 = c0 at *
      clear hc T hl0
      by_cases hs : l0 < 1 ∨ 12 < l0
      · rw [show chkM n ln = 2 from by unfold chkM; rw [if_pos (by rw [← unhide HL0]; exact .inr (.inr hs))]]
        by_cases h2 : l0 < 1
        · have h2I : (l0 : Int) < 1 := by omega
          clear hs
          go_enter Try.func24, Try.ntmps24
          go_wp2
          go_ret
          exact ⟨rfl, (Ext.refl w).alloc _⟩
        · have h2I : ¬ (l0 : Int) < 1 := by omega
          have h3I : (12 : Int) < (l0 : Int) := by omega
          clear hs
          go_enter Try.func24, Try.ntmps24
          go_wp2
          go_ret
          exact ⟨rfl, (Ext.refl w).alloc _⟩
      · have h2I : ¬ (l0 : Int) < 1 := by omega
        have h3I : ¬ (12 : Int) < (l0 : Int) := by omega
        clear hs
        have hE := hide (show chkM n ln = if rag ln n = true then 3 else 0 from by unfold chkM; rw [if_neg (by rw [← unhide HL0]; omega)])
        have HTB := hide ((unhide HT).keep ((Ext.refl w).alloc (.cells #[.slice (some ⟨b, o, none⟩) n c] 22)))
        obtain ⟨wx, hwx⟩ : ∃ wx, wx = w.alloc (.cells #[.slice (some ⟨b, o, none⟩) n c] 22) := ⟨_, rfl⟩
        have hbx : wx.cell? ⟨w.heap.size, 0, none⟩ = some (.slice (some ⟨b, o, none⟩) n c) := by rw [hwx]; simp
        have hEx : Ext w wx := by rw [hwx]; exact (Ext.refl w).alloc _
        rw [← hwx] at HTB
        have HCX := hide (chk_index (some ⟨b, o, none⟩) n c ra ln cp M w.heap.size wx (unhide HTB) (fun i => decide (ln i ≠ ln 0)) (fun k hk W EW => by
          have hx := EW.keep hbx
          obtain ⟨b', o', hbo, -, hcc⟩ := ((unhide HTB).keep EW).hd (by omega)
          injection hbo with hbo
          injection hbo with hb1 ho1
          subst hb1; subst ho1
          have hcc0 := hcc 0 (by omega)
          rw [Nat.add_zero] at hcc0
          clear hcc HTB HT hE hwx hbx
          generalize ra 0 = r1 at *
          generalize cp 0 = c1 at *
          generalize ln 0 = l1 at *
          generalize ra k = r2 at *
          generalize cp k = c2 at *
          generalize ln k = l2 at *
          show Calls Try.prog 42 #[.slice r2 l2 c2, .pointer (some ⟨w.heap.size, 0, none⟩)] W _
          by_cases hll : l2 = l1
          · subst hll
            go_enter Try.func42, Try.ntmps42
            go_wp2
            go_ret
            exact ⟨by simp, Ext.refl _⟩
          · have hllI : ((l2 : Int) != (l1 : Int)) = true := by rw [bne_iff_ne]; omega
            have hd : decide (l2 ≠ l1) = true := decide_eq_true hll
            rw [hd]
            clear hd hll
            go_enter Try.func42, Try.ntmps42
            go_wp2
            go_ret
            exact ⟨rfl, Ext.refl _⟩) hn)
        obtain ⟨rg, hrg⟩ : ∃ rg, rg = rag ln n := ⟨_, rfl⟩
        rw [← hrg] at hE
        have HCC := hide (show Calls Try.prog 41 #[.slice (some ⟨b, o, none⟩) n c, .func (.func 42) #[] #[.pointer (some ⟨w.heap.size, 0, none⟩)]] wx fun e w' => e = .returned (.bool rg) ∧ Ext wx w' from by
          have HX2 := HCX
          have HRG := hide hrg
          clear hrg
          clear HCX HTB HT hE hwx hbx hEx HL0 hc0 h1I h12I h2I h3I
          go_enter Try.func41, Try.ntmps41
          go_wp2_with fail
          refine (unhide HX2).mono ?_
          rintro e w2 ⟨⟨r, rfl, hr⟩, E2⟩
          have hr2 := rag_first hr
          rw [← unhide HRG] at hr2
          clear hr
          go_wp2
          go_ret
          exact ⟨rfl, E2⟩)
        clear HCX
        have HEX := hide hEx
        rw [hwx] at HCC HEX
        clear hEx hbx hwx HTB HT hrg
        cases rg with
        | true =>
          rw [unhide hE]
          go_enter Try.func24, Try.ntmps24
          go_wp2_with fail
          refine (unhide HCC).mono ?_
          rintro e w2 ⟨rfl, E2⟩
          go_wp2
          go_ret
          exact ⟨rfl, (unhide HEX).trans E2⟩
        | false =>
          rw [unhide hE]
          go_enter Try.func24, Try.ntmps24
          go_wp2_with fail
          refine (unhide HCC).mono ?_
          rintro e w2 ⟨rfl, E2⟩
          go_wp2
          go_ret
          exact ⟨rfl, (unhide HEX).trans E2⟩
end Go.Proofs.Ytepkiicekcglhaa

/-
  siftDownOrdered and heapSortOrdered at uint16.
-/
import Derived.Test.YtkebldjepdhioaaSrt1
set_option linter.unusedVariables false
set_option linter.unusedSimpArgs false
namespace Go.Proofs.Ytkebldjepdhioaa
open Go.RowKit Go.BigFrame

set_option maxRecDepth 100000 in
set_option maxHeartbeats 2000000 in
theorem sift_u16 (base g n c lo hi s : Nat) (f : Nat → Nat) (w : World) (S : Sl w w base g n c f) (hb : s + hi ≤ n) (hn : n ≤ 1000) (hlh : lo ≤ hi) (H : Wm.Hp (lo + 1) hi s f) :
    Calls Try.prog 72 #[.slice (some ⟨g, 0, none⟩) n c, .int .i64 lo, .int .i64 hi, .int .i64 s] w fun e w' => e = .returned (.tuple #[]) ∧ SrtPost w base g n c s (s + hi) f (Wm.Hp lo hi s) w' := by
  have HS := hide S
  have HX := hide (Wm.HpX.start H)
  have CL := hide (fun (x y : Nat) (w : World) => Less_u16 x y w)
  clear S H
  go_enter Try.func72, Try.ntmps72
  go_wp2
  go_loopw [8] (fun i wr => ∃ (r : Nat) (h : Nat → Nat), lo ≤ r ∧ r ≤ hi ∧ i = .int .i64 r ∧ Hid (Wm.Shuf s (s + hi) f h) ∧ Hid (Wm.HpX lo hi s r h) ∧ Hid (Sl w wr base g n c h)) (fun i _ => n + 2 - (intOf i).toNat)
  case atStart => exact ⟨lo, f, Nat.le_refl _, hlh, rfl, hide (Wm.Shuf.refl _ _ f), HX, HS⟩
  case round =>
    clear HX HS
    obtain ⟨r, h, hlo, hrh, rfl, HF, HX, HS⟩ := hrel
    obtain ⟨m, hm⟩ : ∃ m, m = 2 * r + 1 := ⟨_, rfl⟩
    have hmI : 2 * (r : Int) + 1 = (m : Int) := by omega
    have hml : m ≤ 2001 := by omega
    by_cases hlt : m < hi
    · obtain ⟨q, hq⟩ : ∃ q, q = s + r := ⟨_, rfl⟩
      obtain ⟨p, hp⟩ : ∃ p, p = s + m := ⟨_, rfl⟩
      have hqI : (s : Int) + (r : Int) = (q : Int) := by omega
      have hpI : (s : Int) + (m : Int) = (p : Int) := by omega
      have hqn : q < n := by omega
      have hpn : p < n := by omega
      have hqw : IntKind.i64.wrap (q : Int) = (q : Int) := IntWalk.i64_in _ (by omega)
      have hpw : IntKind.i64.wrap (p : Int) = (p : Int) := IntWalk.i64_in _ (by omega)
      have hqs : s ≤ q ∧ q < s + hi := by omega
      have hps : s ≤ p ∧ p < s + hi := by omega
      have hqp : q ≠ p := by omega
      have HQ := hide hq
      have HP := hide hp
      have HM := hide hm
      by_cases hlt2 : m + 1 < hi
      · obtain ⟨k, hk⟩ : ∃ k, k = m + 1 := ⟨_, rfl⟩
        obtain ⟨p1, hp1⟩ : ∃ p1, p1 = p + 1 := ⟨_, rfl⟩
        have hkI : (m : Int) + 1 = (k : Int) := by omega
        have hkI2 : (k : Int) < (hi : Int) := by omega
        have hp1I : (p : Int) + 1 = (p1 : Int) := by omega
        have hp1I2 : (s : Int) + (k : Int) = (p1 : Int) := by omega
        have hp1n : p1 < n := by omega
        have hp1w : IntKind.i64.wrap (p1 : Int) = (p1 : Int) := IntWalk.i64_in _ (by omega)
        have hp1s : s ≤ p1 ∧ p1 < s + hi := by omega
        have hqp1 : q ≠ p1 := by omega
        have hkh : k ≤ 1000 := by omega
        have HK1 := hide hk
        have HP1 := hide hp1
        clear hq hp hm hk hp1 hlt2
        have d1 := (unhide HS).cell (i := p) hpn
        have d2 := (unhide HS).cell (i := p1) hp1n
        obtain ⟨x, hx⟩ : ∃ x, x = h p := ⟨_, rfl⟩
        obtain ⟨y, hy⟩ : ∃ y, y = h p1 := ⟨_, rfl⟩
        have CY := hide (fun w : World => unhide CL x y w)
        rw [← hx] at d1
        rw [← hy] at d2
        have HXX := hide hx
        have HYY := hide hy
        clear hx hy
        by_cases hxy : x < y
        · rw [decide_eq_true hxy] at CY
          have HK := hide (show Wm.Chl r k ∧ k < hi ∧ (∀ c, c < hi → Wm.Chl r c → h (s + c) ≤ h (s + k)) ∧ p1 = s + k from by
            have e1 := unhide HM
            have e2 := unhide HK1
            have e3 := unhide HP
            have e4 := unhide HP1
            refine ⟨.inr (by omega), by omega, fun c c1 c2 => ?_, by omega⟩
            rcases c2 with c2 | c2
            · rw [show s + c = p by omega, show s + k = p1 by omega, ← unhide HXX, ← unhide HYY]; omega
            · rw [show c = k by omega]; exact Nat.le_refl _)
          go_wp2
          go_quiet ((go_at_call 67; with_reducible exact Calls.quiet_of (unhide CY _)))
          clear d1 d2
          replace HS := hide ((unhide HS).drewN nq)
          generalize wr.drewN nq = w4 at *
          have c1 := (unhide HS).cell (i := q) hqn
          have c2 := (unhide HS).cell (i := p1) hp1n
          have f1 := (unhide HS).fro q
          have f2 := (unhide HS).fro p1
          obtain ⟨z, hz⟩ : ∃ z, z = h q := ⟨_, rfl⟩
          obtain ⟨v, hv⟩ : ∃ v, v = h p1 := ⟨_, rfl⟩
          have CX := hide (fun w : World => unhide CL z v w)
          have HSW := hide (fun m => ((unhide HS).drewN m).swap (i := q) (j := p1) hqn hp1n hz.symm hv.symm)
          have HFW := hide ((unhide HF).step (i := q) (j := p1) ⟨by omega, by omega⟩ ⟨by omega, by omega⟩)
          rw [← hz] at c1
          rw [← hv] at c2
          have HZ := hide hz
          have HV := hide hv
          clear hz hv
          by_cases hl : z < v
          · rw [decide_eq_true hl] at CX
            have HXW := hide (show Wm.HpX lo hi s k (Wm.swf h q p1) by
              obtain ⟨b1, b2, b3, b4⟩ := unhide HK
              rw [unhide HQ, b4]
              exact (unhide HX).step hlo b1 b2 b3 (by rw [← b4, ← unhide HQ, ← unhide HZ, ← unhide HV]; omega))
            have hlk : lo ≤ k := by
              obtain ⟨b1, b2, b3, b4⟩ := unhide HK
              unfold Wm.Chl at b1
              omega
            have hkb : k ≤ hi := by
              obtain ⟨b1, b2, b3, b4⟩ := unhide HK
              omega
            have hrk : r < k := by
              obtain ⟨b1, b2, b3, b4⟩ := unhide HK
              unfold Wm.Chl at b1
              omega
            go_wp2
            go_quiet ((go_at_call 67; with_reducible exact Calls.quiet_of (unhide CX _)))
            go_wp2
            go_region_law (fail)
            all_goals
              go_wp2
              go_roundw
              case rel => exact ⟨k, Wm.swf h q p1, hlk, by omega, by go_num, HFW, HXW, hide (unhide HSW _)⟩
              case measure => simp [intOf]; omega
          · rw [decide_eq_false hl] at CX
            have HO := hide (show Wm.Hp lo hi s h by
              obtain ⟨b1, b2, b3, b4⟩ := unhide HK
              refine (unhide HX).done fun c h1 h2 => Nat.le_trans (b3 c h1 h2) ?_
              rw [← b4, ← unhide HQ, ← unhide HZ, ← unhide HV]; omega)
            go_wp2
            go_quiet ((go_at_call 67; with_reducible exact Calls.quiet_of (unhide CX _)))
            go_wp2
            refine bodyPost_ret (results_none rfl _ _ _) rfl ?_
            exact ⟨rfl, h, unhide HF, unhide HO, (unhide HS).drewN _⟩

        · rw [decide_eq_false hxy] at CY
          have HK := hide (show Wm.Chl r m ∧ m < hi ∧ (∀ c, c < hi → Wm.Chl r c → h (s + c) ≤ h (s + m)) ∧ p = s + m from by
            have e1 := unhide HM
            have e2 := unhide HK1
            have e3 := unhide HP
            have e4 := unhide HP1
            refine ⟨.inl (by omega), by omega, fun c c1 c2 => ?_, by omega⟩
            rcases c2 with c2 | c2
            · rw [show c = m by omega]; exact Nat.le_refl _
            · rw [show s + c = p1 by omega, show s + m = p by omega, ← unhide HXX, ← unhide HYY]; omega)
          go_wp2
          go_quiet ((go_at_call 67; with_reducible exact Calls.quiet_of (unhide CY _)))
          clear d1 d2
          replace HS := hide ((unhide HS).drewN nq)
          generalize wr.drewN nq = w4 at *
          have c1 := (unhide HS).cell (i := q) hqn
          have c2 := (unhide HS).cell (i := p) hpn
          have f1 := (unhide HS).fro q
          have f2 := (unhide HS).fro p
          obtain ⟨z, hz⟩ : ∃ z, z = h q := ⟨_, rfl⟩
          obtain ⟨v, hv⟩ : ∃ v, v = h p := ⟨_, rfl⟩
          have CX := hide (fun w : World => unhide CL z v w)
          have HSW := hide (fun m => ((unhide HS).drewN m).swap (i := q) (j := p) hqn hpn hz.symm hv.symm)
          have HFW := hide ((unhide HF).step (i := q) (j := p) ⟨by omega, by omega⟩ ⟨by omega, by omega⟩)
          rw [← hz] at c1
          rw [← hv] at c2
          have HZ := hide hz
          have HV := hide hv
          clear hz hv
          by_cases hl : z < v
          · rw [decide_eq_true hl] at CX
            have HXW := hide (show Wm.HpX lo hi s m (Wm.swf h q p) by
              obtain ⟨b1, b2, b3, b4⟩ := unhide HK
              rw [unhide HQ, b4]
              exact (unhide HX).step hlo b1 b2 b3 (by rw [← b4, ← unhide HQ, ← unhide HZ, ← unhide HV]; omega))
            have hlk : lo ≤ m := by
              obtain ⟨b1, b2, b3, b4⟩ := unhide HK
              unfold Wm.Chl at b1
              omega
            have hkb : m ≤ hi := by
              obtain ⟨b1, b2, b3, b4⟩ := unhide HK
              omega
            have hrk : r < m := by
              obtain ⟨b1, b2, b3, b4⟩ := unhide HK
              unfold Wm.Chl at b1
              omega
            go_wp2
            go_quiet ((go_at_call 67; with_reducible exact Calls.quiet_of (unhide CX _)))
            go_wp2
            go_region_law (fail)
            all_goals
              go_wp2
              go_roundw
              case rel => exact ⟨m, Wm.swf h q p, hlk, by omega, by go_num, HFW, HXW, hide (unhide HSW _)⟩
              case measure => simp [intOf]; omega
          · rw [decide_eq_false hl] at CX
            have HO := hide (show Wm.Hp lo hi s h by
              obtain ⟨b1, b2, b3, b4⟩ := unhide HK
              refine (unhide HX).done fun c h1 h2 => Nat.le_trans (b3 c h1 h2) ?_
              rw [← b4, ← unhide HQ, ← unhide HZ, ← unhide HV]; omega)
            go_wp2
            go_quiet ((go_at_call 67; with_reducible exact Calls.quiet_of (unhide CX _)))
            go_wp2
            refine bodyPost_ret (results_none rfl _ _ _) rfl ?_
            exact ⟨rfl, h, unhide HF, unhide HO, (unhide HS).drewN _⟩

      · have hkI2 : ¬ (m : Int) + 1 < (hi : Int) := by omega
        have hkI3 : (hi : Int) ≤ (m : Int) + 1 := by omega
        have hkB : decide ((m : Int) + 1 < (hi : Int)) = false := decide_eq_false hkI2
        have HK := hide (show Wm.Chl r m ∧ m < hi ∧ (∀ c, c < hi → Wm.Chl r c → h (s + c) ≤ h (s + m)) ∧ p = s + m from by
            refine ⟨.inl (by omega), by omega, fun c c1 c2 => ?_, by omega⟩
            rcases c2 with c2 | c2
            · rw [show c = m by omega]; exact Nat.le_refl _
            · omega)
        clear hq hp hm hlt2
        · go_wp2
          go_quiet (fail)
          replace HS := hide ((unhide HS).drewN nq)
          generalize wr.drewN nq = w4 at *
          have c1 := (unhide HS).cell (i := q) hqn
          have c2 := (unhide HS).cell (i := p) hpn
          have f1 := (unhide HS).fro q
          have f2 := (unhide HS).fro p
          obtain ⟨z, hz⟩ : ∃ z, z = h q := ⟨_, rfl⟩
          obtain ⟨v, hv⟩ : ∃ v, v = h p := ⟨_, rfl⟩
          have CX := hide (fun w : World => unhide CL z v w)
          have HSW := hide (fun m => ((unhide HS).drewN m).swap (i := q) (j := p) hqn hpn hz.symm hv.symm)
          have HFW := hide ((unhide HF).step (i := q) (j := p) ⟨by omega, by omega⟩ ⟨by omega, by omega⟩)
          rw [← hz] at c1
          rw [← hv] at c2
          have HZ := hide hz
          have HV := hide hv
          clear hz hv
          by_cases hl : z < v
          · rw [decide_eq_true hl] at CX
            have HXW := hide (show Wm.HpX lo hi s m (Wm.swf h q p) by
              obtain ⟨b1, b2, b3, b4⟩ := unhide HK
              rw [unhide HQ, b4]
              exact (unhide HX).step hlo b1 b2 b3 (by rw [← b4, ← unhide HQ, ← unhide HZ, ← unhide HV]; omega))
            have hlk : lo ≤ m := by
              obtain ⟨b1, b2, b3, b4⟩ := unhide HK
              unfold Wm.Chl at b1
              omega
            have hkb : m ≤ hi := by
              obtain ⟨b1, b2, b3, b4⟩ := unhide HK
              omega
            have hrk : r < m := by
              obtain ⟨b1, b2, b3, b4⟩ := unhide HK
              unfold Wm.Chl at b1
              omega
            go_wp2
            go_quiet ((go_at_call 67; with_reducible exact Calls.quiet_of (unhide CX _)))
            go_wp2
            go_region_law (fail)
            all_goals
              go_wp2
              go_roundw
              case rel => exact ⟨m, Wm.swf h q p, hlk, by omega, by go_num, HFW, HXW, hide (unhide HSW _)⟩
              case measure => simp [intOf]; omega
          · rw [decide_eq_false hl] at CX
            have HO := hide (show Wm.Hp lo hi s h by
              obtain ⟨b1, b2, b3, b4⟩ := unhide HK
              refine (unhide HX).done fun c h1 h2 => Nat.le_trans (b3 c h1 h2) ?_
              rw [← b4, ← unhide HQ, ← unhide HZ, ← unhide HV]; omega)
            go_wp2
            go_quiet ((go_at_call 67; with_reducible exact Calls.quiet_of (unhide CX _)))
            go_wp2
            refine bodyPost_ret (results_none rfl _ _ _) rfl ?_
            exact ⟨rfl, h, unhide HF, unhide HO, (unhide HS).drewN _⟩

    · have HO := hide ((unhide HX).done fun c h1 h2 => by unfold Wm.Chl at h2; omega)
      have hltI : (hi : Int) ≤ 2 * (r : Int) + 1 := by omega
      have hr1 : (r : Int) ≤ 1000 := by omega
      clear hmI hml hlt hm
      go_wp2
      go_end0
      exact ⟨rfl, h, unhide HF, unhide HO, unhide HS⟩
end Go.Proofs.Ytkebldjepdhioaa

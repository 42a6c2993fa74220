/-
  heapSortOrdered and reverseRangeOrdered at uint16.
-/
import Derived.Test.YtkebldjepdhioaaSrt2
set_option linter.unusedVariables false
set_option linter.unusedSimpArgs false
namespace Go.Proofs.Ytkebldjepdhioaa
open Go.RowKit Go.BigFrame

set_option maxRecDepth 100000 in
set_option maxHeartbeats 2000000 in
theorem heap_u16 (base g n c a b : Nat) (f : Nat → Nat) (w : World) (S : Sl w w base g n c f) (hab : a < b) (hb : b ≤ n) (hn : n ≤ 1000) :
    Calls Try.prog 62 #[.slice (some ⟨g, 0, none⟩) n c, .int .i64 a, .int .i64 b] w fun e w' => e = .returned (.tuple #[]) ∧ SrtPost w base g n c a b f (Wm.Srtd a b) w' := by
  obtain ⟨L, hL⟩ : ∃ L, b = a + L := ⟨b - a, by omega⟩
  have HB := hide hL
  have hL1 : 1 ≤ L := by omega
  have hLn : L ≤ 1000 := by omega
  have HS := hide S
  have CS := hide (fun (lo hi : Nat) (f : Nat → Nat) (w : World) (S : Sl w w base g n c f) (hb : a + hi ≤ n) (hlh : lo ≤ hi) (H : Wm.Hp (lo + 1) hi a f) => sift_u16 base g n c lo hi a f w S hb hn hlh H)
  obtain ⟨M, hM⟩ : ∃ M, M = L - 1 := ⟨_, rfl⟩
  obtain ⟨v, hv⟩ : ∃ v, v = M / 2 := ⟨_, rfl⟩
  have hLI : (b : Int) - (a : Int) = (L : Int) := by omega
  have haLn : a + L ≤ n := by omega
  have hMI : (L : Int) - 1 = (M : Int) := by omega
  have hMn : M ≤ 1000 := by omega
  have hvI : (M : Int).tdiv 2 = (v : Int) := by rw [hv]; rfl
  have hvI2 : (M : Int) / 2 = (v : Int) := by rw [hv]; rfl
  have hvn : v ≤ 1000 := by omega
  have HV := hide (show L ≤ 2 * (v + 1) + 1 ∧ v ≤ L ∧ M + 1 = L from by omega)
  clear S hM hv hL
  go_enter Try.func62, Try.ntmps62
  go_wp2
  go_loopw [9] (fun i wr => ∃ (k : Nat) (h : Nat → Nat), k ≤ v + 1 ∧ i = .int .i64 ((k : Int) - 1) ∧ Hid (Wm.Shuf a (a + L) f h) ∧ Hid (Wm.Hp k L a h) ∧ Hid (Sl w wr base g n c h)) (fun i _ => (intOf i + 1).toNat)
  case atStart => exact ⟨v + 1, f, Nat.le_refl _, by go_num, hide (Wm.Shuf.refl _ _ f), hide (Wm.Hp.leaves f (unhide HV).1), HS⟩
  case round =>
    clear HS
    obtain ⟨k, h, hk, rfl, HF, HH, HS⟩ := hrel
    by_cases hk0 : k = 0
    · subst hk0
      rw [show ((0 : Nat) : Int) - 1 = -1 from rfl]
      have HP := hide (Wm.Pop.start (unhide HH))
      clear HH
      go_wp2
      go_loopw [10] (fun i wr => ∃ (k : Nat) (h : Nat → Nat), k ≤ L ∧ i = .int .i64 ((k : Int) - 1) ∧ Hid (Wm.Shuf a (a + L) f h) ∧ Hid (Wm.Pop k L a h) ∧ Hid (Sl w wr base g n c h)) (fun i _ => (intOf i + 1).toNat)
      case atStart => exact ⟨L, h, Nat.le_refl _, by first | rfl | (have := unhide HV; go_num) | (congr 1; omega), HF, HP, HS⟩
      case round =>
        clear HF HP HS
        obtain ⟨k, h, hk, rfl, HF, HP, HS⟩ := hrel
        by_cases hk0 : k = 0
        · subst hk0
          have HO := hide (unhide HP).done
          go_wp2
          go_end0
          exact ⟨rfl, h, by rw [unhide HB]; exact unhide HF, by rw [unhide HB]; exact unhide HO, unhide HS⟩
        · obtain ⟨j, rfl⟩ : ∃ j, k = j + 1 := ⟨k - 1, by omega⟩
          have hjI : ((j + 1 : Nat) : Int) - 1 = (j : Int) := by omega
          rw [hjI]
          have HN := hide (unhide HP).sift
          have HPS := hide (fun f' => (unhide HP).step (f' := f') hk)
          obtain ⟨x, hx⟩ : ∃ x, x = h a := ⟨_, rfl⟩
          have han : a < n := by omega
          have haL : a < a + L := by omega
          have haw : IntKind.i64.wrap (a : Int) = (a : Int) := IntWalk.i64_in _ (by omega)
          have c1 := (unhide HS).cell (i := a) (by omega)
          have f1 := (unhide HS).fro a
          by_cases hj0 : j = 0
          · subst hj0
            have HSW := hide (fun m => ((unhide HS).drewN m).swap_self (i := a) han hx.symm)
            have HFW := hide ((unhide HF).step (i := a) (j := a) ⟨Nat.le_refl _, haL⟩ ⟨Nat.le_refl _, haL⟩)
            rw [← hx] at c1
            clear hx HS HP HF
            rw [Nat.add_zero] at HN HPS
            have C := hide (fun (w : World) S => unhide CS 0 0 (Wm.swf h a a) w S (by omega) (Nat.le_refl _) (unhide HN))
            go_wp2
            go_region_law (fail)
            all_goals
              go_wp2_with fail
              refine (unhide C _ (unhide HSW _).here).mono ?_
              rintro e w2 ⟨rfl, h2, F2, O2, S2⟩
              have HO2 := hide (unhide HPS h2 (by rwa [Nat.add_zero] at F2) O2)
              have HS2 := hide ((unhide HSW _).trans S2)
              have HF2 := hide ((unhide HFW).trans (F2.wide (Nat.le_refl _) (by omega)))
              clear F2 O2 S2
              go_wp2
              go_roundw
              case rel => exact ⟨0, h2, by omega, by go_num, HF2, HO2, HS2⟩
              case measure => first | (simp [intOf]; omega) | simp [intOf]
          · obtain ⟨p, hp⟩ : ∃ p, p = a + j := ⟨_, rfl⟩
            have hpI : (a : Int) + (j : Int) = (p : Int) := by omega
            have hpn : p < n := by omega
            have hpw : IntKind.i64.wrap (p : Int) = (p : Int) := IntWalk.i64_in _ (by omega)
            have hap : a ≠ p := by omega
            have hpL : a ≤ p ∧ p < a + L := by omega
            have c2 := (unhide HS).cell (i := p) hpn
            have f2 := (unhide HS).fro p
            obtain ⟨y, hy⟩ : ∃ y, y = h p := ⟨_, rfl⟩
            have HSW := hide (fun m => ((unhide HS).drewN m).swap (i := a) (j := p) han hpn hx.symm hy.symm)
            have HFW := hide ((unhide HF).step (i := a) (j := p) ⟨Nat.le_refl _, haL⟩ hpL)
            rw [← hx] at c1
            rw [← hy] at c2
            rw [← hp] at HN HPS
            have C := hide (fun (w : World) S => unhide CS 0 j (Wm.swf h a p) w S (by omega) (Nat.zero_le _) (unhide HN))
            have HPP := hide (show a + j ≤ a + L ∧ p = a + j by omega)
            clear hx hy hp HS HP HF
            go_wp2
            go_region_law (fail)
            all_goals
              go_wp2_with fail
              refine (unhide C _ (unhide HSW _).here).mono ?_
              rintro e w2 ⟨rfl, h2, F2, O2, S2⟩
              have HO2 := hide (unhide HPS h2 (by rw [← (unhide HPP).2] at F2; exact F2) O2)
              have HS2 := hide ((unhide HSW _).trans S2)
              have HF2 := hide ((unhide HFW).trans (F2.wide (Nat.le_refl _) (unhide HPP).1))
              clear F2 O2 S2
              go_wp2
              go_roundw
              case rel => exact ⟨j, h2, by omega, by go_num, HF2, HO2, HS2⟩
              case measure => first | (simp [intOf]; omega) | simp [intOf]
    · obtain ⟨j, rfl⟩ : ∃ j, k = j + 1 := ⟨k - 1, by omega⟩
      have hjI : ((j + 1 : Nat) : Int) - 1 = (j : Int) := by omega
      rw [hjI]
      have C := hide (fun (w : World) S => unhide CS j L h w S (by omega) (by have := unhide HV; omega) (unhide HH))
      go_wp2_with fail
      refine (unhide C _ (unhide HS).here).mono ?_
      rintro e w2 ⟨rfl, h2, F2, O2, S2⟩
      have HO2 := hide O2
      have HS2 := hide ((unhide HS).trans S2)
      have HF2 := hide ((unhide HF).trans F2)
      clear F2 O2 S2
      go_wp2
      go_roundw
      case rel => exact ⟨j, h2, by omega, by go_num, HF2, HO2, HS2⟩
      case measure => first | (simp [intOf]; omega) | simp [intOf]

set_option maxRecDepth 100000 in
set_option maxHeartbeats 2000000 in
theorem reverse_u16 (base g n c a b : Nat) (f : Nat → Nat) (w : World) (S : Sl w w base g n c f) (hab : a < b) (hb : b ≤ n) (hn : n ≤ 1000) :
    Calls Try.prog 65 #[.slice (some ⟨g, 0, none⟩) n c, .int .i64 a, .int .i64 b] w fun e w' => e = .returned (.tuple #[]) ∧ SrtPost w base g n c a b f (fun _ => True) w' := by
  have HS := hide S
  obtain ⟨M, hM⟩ : ∃ M, M = b - 1 := ⟨_, rfl⟩
  have hMI : (b : Int) - 1 = (M : Int) := by omega
  have HM := hide hM
  clear S hM
  go_enter Try.func65, Try.ntmps65
  go_wp2
  go_loopw [6, 7] (fun i j wr => ∃ (x y : Nat) (h : Nat → Nat), a ≤ x ∧ x ≤ b ∧ y + 1 ≤ b ∧ i = .int .i64 x ∧ j = .int .i64 y ∧ Hid (Wm.Shuf a b f h) ∧ Hid (Sl w wr base g n c h)) (fun _ j _ => (intOf j).toNat)
  case atStart => exact ⟨a, M, f, Nat.le_refl _, by omega, by have := unhide HM; omega, rfl, by go_num, hide (Wm.Shuf.refl _ _ f), HS⟩
  case round =>
    clear HS
    obtain ⟨i, j, h, hai, hib, hjb, rfl, rfl, HF, HS⟩ := hrel
    by_cases hij : i < j
    · have hin : i < n := by omega
      have hjn : j < n := by omega
      have hne : i ≠ j := by omega
      have c1 := (unhide HS).cell (i := i) hin
      have f1 := (unhide HS).fro i
      have c2 := (unhide HS).cell (i := j) hjn
      have f2 := (unhide HS).fro j
      obtain ⟨x, hx⟩ : ∃ x, x = h i := ⟨_, rfl⟩
      obtain ⟨y, hy⟩ : ∃ y, y = h j := ⟨_, rfl⟩
      have HSW := hide (fun m => ((unhide HS).drewN m).swap (i := i) (j := j) hin hjn hx.symm hy.symm)
      have HFW := hide ((unhide HF).step (i := i) (j := j) ⟨hai, by omega⟩ ⟨by omega, by omega⟩)
      rw [← hx] at c1
      rw [← hy] at c2
      have hj1 : (j : Int) - 1 = ((j - 1 : Nat) : Int) := by omega
      clear hx hy HS HF
      go_wp2
      go_region_law (fail)
      all_goals
        go_wp2
        go_roundw
        case rel => exact ⟨i + 1, j - 1, Wm.swf h i j, by omega, by omega, by omega, by go_num, by go_num, HFW, hide (unhide HSW _)⟩
        case measure => simp [intOf]; omega
    · go_wp2
      go_end0
      exact ⟨rfl, h, unhide HF, trivial, unhide HS⟩
end Go.Proofs.Ytkebldjepdhioaa

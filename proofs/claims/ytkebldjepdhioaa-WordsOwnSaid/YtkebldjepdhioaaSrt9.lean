/-
  partialInsertionSortOrdered at uint16.
-/
import Derived.Test.YtkebldjepdhioaaSrt1
import Derived.Deep.Cut
import Derived.Deep.CutRange
import Derived.Deep.CutBlock
set_option linter.unusedVariables false
set_option linter.unusedSimpArgs false
namespace Go.Proofs.Ytkebldjepdhioaa
open Go.RowKit Go.BigFrame

def PisPost (w : World) (base g n c a b : Nat) (f : Nat → Nat) (e : Ending) (w' : World) : Prop := ∃ r : Bool, e = .returned (.bool r) ∧ SrtPost w base g n c a b f (fun f' => r = true → Wm.Srtd a b f') w'
set_option maxRecDepth 100000 in
set_option maxHeartbeats 8000000 in
theorem pis_u16 (base g n c a b : Nat) (f : Nat → Nat) (w : World) (S : Sl w w base g n c f) (hab : a < b) (hb : b ≤ n) (hn : n ≤ 1000) (hB : Wm.Blw a b f) :
    Calls Try.prog 66 #[.slice (some ⟨g, 0, none⟩) n c, .int .i64 a, .int .i64 b] w fun e w' => PisPost w base g n c a b f e w' := by
  have HS := hide S
  have HB := hide (fun h (s : Wm.Shuf a b f h) => hB.shuf s)
  have CL := hide (fun (x y : Nat) (w : World) => Less_u16 x y w)
  clear S hB
  go_enter Try.func66, Try.ntmps66
  go_wp2
  go_loopw [7, 8] (fun iv jv wr => ∃ (i j : Nat) (h : Nat → Nat), a < i ∧ i ≤ b ∧ j ≤ 5 ∧ iv = .int .i64 i ∧ jv = .int .i64 j ∧ Hid (Wm.Srtd a i h) ∧ Hid (Wm.Shuf a b f h) ∧ Hid (Sl w wr base g n c h)) (fun _ jv _ => 5 - (intOf jv).toNat)
  case atStart => exact ⟨a + 1, 0, f, by omega, by omega, by omega, by go_num, rfl, hide (fun p q h1 h2 h3 => by omega), hide (Wm.Shuf.refl a b f), HS⟩
  case round =>
    clear HS
    obtain ⟨i0, t, h, hai0, hi0b, ht, rfl, rfl, HO, HF, HS⟩ := hrel
    by_cases ht5 : t < 5
    · go_upto_block 2 with fail
      go_cut [7] from 13 to 132 (fun iv wx => ∃ i : Nat, i0 ≤ i ∧ i ≤ b ∧ iv = .int .i64 i ∧ Hid (Wm.Srtd a i h) ∧ Hid (i < b → h i < h (i - 1)) ∧ Hid (Sl w wx base g n c h))
      case first =>
        go_wp2_with fail
        go_loopw [7] (fun iv wz => ∃ i : Nat, i0 ≤ i ∧ i ≤ b ∧ iv = .int .i64 i ∧ Hid (Wm.Srtd a i h) ∧ Hid (Sl w wz base g n c h)) (fun iv _ => b - (intOf iv).toNat)
        case atStart => exact ⟨i0, Nat.le_refl _, hi0b, rfl, HO, HS⟩
        case round =>
          clear HO HS
          obtain ⟨i, hi0, hib, rfl, HO, HS⟩ := hrel
          by_cases hlt : i < b
          · obtain ⟨k, hk⟩ : ∃ k, k = i - 1 := ⟨_, rfl⟩
            have hkI : (i : Int) - 1 = (k : Int) := by omega
            have hkn : k < n := by omega
            have hin : i < n := by omega
            have c1 := (unhide HS).cell (i := i) hin
            have c2 := (unhide HS).cell (i := k) hkn
            obtain ⟨x, hx⟩ : ∃ x, x = h i := ⟨_, rfl⟩
            obtain ⟨y, hy⟩ : ∃ y, y = h k := ⟨_, rfl⟩
            have CX := hide (fun w : World => unhide CL x y w)
            have HXY := hide (show x = h i ∧ y = h (i - 1) from ⟨hx, by rw [hy, hk]⟩)
            rw [← hx] at c1
            rw [← hy] at c2
            clear hx hy hk
            by_cases hl : x < y
            · rw [decide_eq_true hl] at CX
              have HE : Hid (i < b → h i < h (i - 1)) := hide (fun _ => by have := unhide HXY; omega)
              go_wp2
              go_quiet ((go_at_call 67; with_reducible exact Calls.quiet_of (unhide CX _)))
              go_wp2
              go_meet
              case rel => exact ⟨i, hi0, hib, rfl, HO, HE, hide ((unhide HS).drewN _)⟩
            · rw [decide_eq_false hl] at CX
              have HO2 := hide ((unhide HO).snoc (.inr (by have := unhide HXY; omega)))
              go_wp2
              go_quiet ((go_at_call 67; with_reducible exact Calls.quiet_of (unhide CX _)))
              go_wp2
              go_roundw
              case rel => exact ⟨i + 1, by omega, by omega, by go_num, HO2, hide ((unhide HS).drewN _)⟩
              case measure => simp [intOf]; omega
          · have HE : Hid (i < b → h i < h (i - 1)) := hide (fun hh => absurd hh hlt)
            have hlB : decide ((i : Int) < (b : Int)) = false := decide_eq_false (by omega)
            go_wp2
            go_quiet (fail)
            go_wp2
            go_meet
            case rel => exact ⟨i, hi0, hib, rfl, HO, HE, hide ((unhide HS).drewN _)⟩
      case rest =>
        clear HO HS
        obtain ⟨i, hi0, hib, rfl, HO, HE, HS⟩ := hcut
        by_cases hi : i = b
        · subst hi
          go_wp2
          go_ret
          exact ⟨true, rfl, h, unhide HF, fun _ => unhide HO, unhide HS⟩
        · have hiB : ((i : Int) == (b : Int)) = false := by rw [beq_eq_false_iff_ne]; omega
          have hiN : ¬ (i : Int) = (b : Int) := by omega
          by_cases h50 : b - a < 50
          · have h50I : (b : Int) - (a : Int) < 50 := by omega
            go_wp2
            go_ret
            exact ⟨false, rfl, h, unhide HF, fun e => absurd e (by decide), unhide HS⟩
          · have h50I : ¬ (b : Int) - (a : Int) < 50 := by omega
            have hab50 : a + 50 ≤ b := by omega
            obtain ⟨k, hk⟩ : ∃ k, k = i - 1 := ⟨_, rfl⟩
            have hkI : (i : Int) - 1 = (k : Int) := by omega
            have hkn : k < n := by omega
            have hkw : IntKind.i64.wrap (k : Int) = (k : Int) := IntWalk.i64_in _ (by omega)
            have hin : i < n := by omega
            have hne : k ≠ i := by omega
            have hne2 : i ≠ k := by omega
            have hak : a ≤ k := by omega
            have hki : k < i := by omega
            have HI := hide (show Wm.InsA a i k (Wm.swf h i k) by rw [hk]; exact Wm.InsA.of_swap (unhide HO))
            have HF1 := hide ((unhide HF).step (i := i) (j := k) ⟨by omega, by omega⟩ ⟨by omega, by omega⟩)
            clear HO HE hk
            go_upto_region 11 with fail
            go_cut [] from 13 to 132 (fun wx => Hid (Sl w wx base g n c (Wm.swf h i k)))
            case first =>
              have c1 := (unhide HS).cell (i := i) hin
              have f1 := (unhide HS).fro i
              have c2 := (unhide HS).cell (i := k) hkn
              have f2 := (unhide HS).fro k
              obtain ⟨x, hx⟩ : ∃ x, x = h i := ⟨_, rfl⟩
              obtain ⟨y, hy⟩ : ∃ y, y = h k := ⟨_, rfl⟩
              have HSW := hide (fun m0 => ((unhide HS).drewN m0).swap (i := i) (j := k) hin hkn hx.symm hy.symm)
              rw [← hx] at c1
              rw [← hy] at c2
              clear hx hy
              go_region_law (fail)
              all_goals
                go_wp2_with fail
                go_meet
                case rel => exact hide (unhide HSW _)
            case rest =>
              clear HF HS
              have HF := HF1
              have HS := hcut
              clear HF1 hcut h50I h50 hiB hiN
              generalize Wm.swf h i k = h at *
              go_upto_if 61 with fail
              go_cut [9] from 13 to 132 (fun _ wx => ∃ h2, Hid (Wm.Shuf a b f h2) ∧ Hid (Wm.Srtd a i h2) ∧ Hid (Sl w wx base g n c h2))
              case first =>
                by_cases h2 : a + 2 ≤ i
                · have h2I : (i : Int) - (a : Int) ≥ 2 := by omega
                  have h2I' : (2 : Int) ≤ (i : Int) - (a : Int) := by omega
                  have hD : decide ((2 : Int) ≤ (i : Int) - (a : Int)) = true := decide_eq_true h2I'
                  simp only [hD]
                  go_wp2_with fail
                  go_loopw [9] (fun jv wz => ∃ (j : Nat) (h : Nat → Nat), a ≤ j ∧ j < i ∧ jv = .int .i64 j ∧ Hid (Wm.InsA a i j h) ∧ Hid (Wm.Shuf a b f h) ∧ Hid (Sl w wz base g n c h)) (fun jv _ => (intOf jv).toNat)
                  case atStart => exact ⟨k, h, hak, hki, rfl, HI, HF, HS⟩
                  case round =>
                    clear HI HF HS hkI hkn hkw hne hne2 hak hki
                    obtain ⟨j, h, haj, hji, rfl, HI, HF, HS⟩ := hrel
                    by_cases hj0 : j = 0
                    · subst hj0
                      have HO := hide ((unhide HI).done (.inl (Nat.zero_le a)))
                      go_wp2
                      go_meet
                      case rel => exact ⟨h, HF, HO, HS⟩
                    · obtain ⟨m, hm⟩ : ∃ m, m = j - 1 := ⟨_, rfl⟩
                      have hmI : (j : Int) - 1 = (m : Int) := by omega
                      have hj1I : (1 : Int) ≤ (j : Int) := by omega
                      have hmn : m < n := by omega
                      have hmw : IntKind.i64.wrap (m : Int) = (m : Int) := IntWalk.i64_in _ (by omega)
                      have hjn : j < n := by omega
                      have hne : m ≠ j := by omega
                      have hne2 : j ≠ m := by omega
                      have HM := hide hm
                      have HBL := hide (unhide HB h (unhide HF))
                      have c1 := (unhide HS).cell (i := j) hjn
                      have f1 := (unhide HS).fro j
                      have c2 := (unhide HS).cell (i := m) hmn
                      have f2 := (unhide HS).fro m
                      obtain ⟨x, hx⟩ : ∃ x, x = h j := ⟨_, rfl⟩
                      obtain ⟨y, hy⟩ : ∃ y, y = h m := ⟨_, rfl⟩
                      have HSW := hide (fun m0 => ((unhide HS).drewN m0).swap (i := j) (j := m) hjn hmn hx.symm hy.symm)
                      rw [← hx] at c1
                      rw [← hy] at c2
                      have HXY := hide (And.intro hx hy)
                      clear hx hy
                      have CX := hide (fun w : World => unhide CL x y w)
                      by_cases hl : x < y
                      · rw [decide_eq_true hl] at CX
                        have hajl : a < j := by
                          rcases Nat.lt_or_ge a j with h' | h'
                          · exact h'
                          · obtain rfl : j = a := by omega
                            have e1 := unhide HXY
                            have e2 := unhide HBL (by omega) j (Nat.le_refl _) (by omega)
                            rw [← unhide HM] at e2
                            omega
                        have HI2 := hide (show Wm.InsA a i m (Wm.swf h j m) by
                          have e1 := unhide HXY
                          rw [unhide HM] at e1 ⊢
                          exact (unhide HI).step hajl hji (by omega))
                        have HF2 := hide ((unhide HF).step (i := j) (j := m) ⟨by omega, by omega⟩ ⟨by omega, by omega⟩)
                        clear hm HBL
                        go_wp2
                        go_quiet ((go_at_call 67; with_reducible exact Calls.quiet_of (unhide CX _)))
                        go_wp2
                        go_region_law (fail)
                        all_goals
                          go_wp2
                          go_roundw
                          case rel => exact ⟨m, _, by omega, by omega, by go_num, HI2, HF2, hide (unhide HSW _)⟩
                          case measure => simp [intOf]; omega
                      · rw [decide_eq_false hl] at CX
                        have HO := hide ((unhide HI).done (.inr (by
                          have e1 := unhide HXY
                          rw [unhide HM] at e1
                          omega)))
                        clear hm HBL
                        go_wp2
                        go_quiet ((go_at_call 67; with_reducible exact Calls.quiet_of (unhide CX _)))
                        go_wp2
                        go_meet
                        case rel => exact ⟨h, HF, HO, hide ((unhide HS).drewN _)⟩
                · have h2I : ¬ (i : Int) - (a : Int) ≥ 2 := by omega
                  have h2I' : ¬ (2 : Int) ≤ (i : Int) - (a : Int) := by omega
                  have HO := hide (show Wm.Srtd a i h from fun p q h1 h2 h3 => by omega)
                  go_wp2
                  go_meet
                  case rel => exact ⟨h, HF, HO, HS⟩
              case rest =>
                clear HF HS HI
                obtain ⟨h, HF, HO, HS⟩ := hcut
                by_cases h2 : i + 2 ≤ b
                · have h2I : (b : Int) - (i : Int) ≥ 2 := by omega
                  have h2I' : (2 : Int) ≤ (b : Int) - (i : Int) := by omega
                  go_wp2_with fail
                  go_loopw [10] (fun jv wz => ∃ (j : Nat) (h : Nat → Nat), i < j ∧ j ≤ b ∧ jv = .int .i64 j ∧ Hid (Wm.Srtd a i h) ∧ Hid (Wm.Shuf a b f h) ∧ Hid (Sl w wz base g n c h)) (fun jv _ => b - (intOf jv).toNat)
                  case atStart => exact ⟨i + 1, h, by omega, by omega, by go_num, HO, HF, HS⟩
                  case round =>
                    clear HO HF HS hkI hkn hkw hne hne2 hak hki
                    obtain ⟨j, h, hij, hjb, rfl, HO, HF, HS⟩ := hrel
                    by_cases hjb2 : j < b
                    · obtain ⟨m, hm⟩ : ∃ m, m = j - 1 := ⟨_, rfl⟩
                      have hmI : (j : Int) - 1 = (m : Int) := by omega
                      have hmn : m < n := by omega
                      have hmw : IntKind.i64.wrap (m : Int) = (m : Int) := IntWalk.i64_in _ (by omega)
                      have hjn : j < n := by omega
                      have hne : m ≠ j := by omega
                      have hne2 : j ≠ m := by omega
                      have him : i ≤ m := by omega
                      clear hm
                      have c1 := (unhide HS).cell (i := j) hjn
                      have f1 := (unhide HS).fro j
                      have c2 := (unhide HS).cell (i := m) hmn
                      have f2 := (unhide HS).fro m
                      obtain ⟨x, hx⟩ : ∃ x, x = h j := ⟨_, rfl⟩
                      obtain ⟨y, hy⟩ : ∃ y, y = h m := ⟨_, rfl⟩
                      have HSW := hide (fun m0 => ((unhide HS).drewN m0).swap (i := j) (j := m) hjn hmn hx.symm hy.symm)
                      rw [← hx] at c1
                      rw [← hy] at c2
                      have HXY := hide (And.intro hx hy)
                      clear hx hy
                      have CX := hide (fun w : World => unhide CL x y w)
                      by_cases hl : x < y
                      · rw [decide_eq_true hl] at CX
                        have HO2 := hide ((unhide HO).above (x := j) (y := m) (by omega) him)
                        have HF2 := hide ((unhide HF).step (i := j) (j := m) ⟨by omega, by omega⟩ ⟨by omega, by omega⟩)
                        go_wp2
                        go_quiet ((go_at_call 67; with_reducible exact Calls.quiet_of (unhide CX _)))
                        go_wp2
                        go_region_law (fail)
                        all_goals
                          go_wp2
                          go_roundw
                          case rel => exact ⟨j + 1, _, by omega, by omega, by go_num, HO2, HF2, hide (unhide HSW _)⟩
                          case measure => simp [intOf]; omega
                      · rw [decide_eq_false hl] at CX
                        go_wp2
                        go_quiet ((go_at_call 67; with_reducible exact Calls.quiet_of (unhide CX _)))
                        go_wp2
                        go_roundw
                        case rel => exact ⟨i, t + 1, h, by omega, by omega, by omega, rfl, by go_num, HO, HF, hide ((unhide HS).drewN _)⟩
                        case measure => simp [intOf]; omega
                    · go_wp2
                      go_roundw
                      case rel => exact ⟨i, t + 1, h, by omega, by omega, by omega, rfl, by go_num, HO, HF, HS⟩
                      case measure => simp [intOf]; omega
                · have h2I : ¬ (b : Int) - (i : Int) ≥ 2 := by omega
                  have h2I' : ¬ (2 : Int) ≤ (b : Int) - (i : Int) := by omega
                  go_wp2
                  go_roundw
                  case rel => exact ⟨i, t + 1, h, by omega, by omega, by omega, rfl, by go_num, HO, HF, HS⟩
                  case measure => simp [intOf]; omega
    · go_wp2
      go_ret
      exact ⟨false, rfl, h, unhide HF, fun e => absurd e (by decide), unhide HS⟩
end Go.Proofs.Ytkebldjepdhioaa

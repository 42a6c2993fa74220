/-
  partitionOrdered at uint16.
-/
import Derived.Test.YtkebldjepdhioaaSrt3
import Derived.Deep.Cut
import Derived.Deep.CutRange
import Derived.Deep.CutBlock
set_option linter.unusedVariables false
set_option linter.unusedSimpArgs false
namespace Go.Proofs.Ytkebldjepdhioaa
open Go.RowKit Go.BigFrame

def PartPost (w : World) (base g n c a b : Nat) (f : Nat → Nat) (e : Ending) (w' : World) : Prop := ∃ (mid : Nat) (q : Bool), e = .returned (.tuple #[.int .i64 (mid : Int), .bool q]) ∧ SrtPost w base g n c a b f (Wm.Prtd a b mid) w'
set_option maxRecDepth 100000 in
set_option maxHeartbeats 8000000 in
theorem partition_u16 (base g n c a b p : Nat) (f : Nat → Nat) (w : World) (S : Sl w w base g n c f) (hap : a ≤ p) (hpb : p < b) (hab : a + 2 ≤ b) (hb : b ≤ n) (hn : n ≤ 1000) :
    Calls Try.prog 69 #[.slice (some ⟨g, 0, none⟩) n c, .int .i64 a, .int .i64 b, .int .i64 p] w fun e w' => PartPost w base g n c a b f e w' := by
  have HS := hide S
  have CL := hide (fun (x y : Nat) (w : World) => Less_u16 x y w)
  have han : a < n := by omega
  have hpn : p < n := by omega
  have hF := Wm.Shuf.swap f (a := a) (b := b) (i := a) (j := p) ⟨Nat.le_refl _, by omega⟩ ⟨hap, hpb⟩
  obtain ⟨h, hh⟩ : ∃ h, h = Wm.swf f a p := ⟨_, rfl⟩
  rw [← hh] at hF
  have HF := hide hF
  have HH := hide hh
  clear S hF hh
  go_enter Try.func69, Try.ntmps69
  go_upto_region 1 with fail
  go_cut [] from 12 to 25 (fun wx => Hid (Sl w wx base g n c h))
  case first =>
    by_cases e : p = a
    · subst e
      have c1 := (unhide HS).cell (i := p) hpn
      have f1 := (unhide HS).fro p
      obtain ⟨x, hx⟩ : ∃ x, x = f p := ⟨_, rfl⟩
      have HSW := hide (fun m => ((unhide HS).drewN m).swap_self (i := p) hpn hx.symm)
      rw [← hx] at c1
      clear hx
      go_region_law (fail)
      all_goals
        go_wp2_with fail
        go_meet
        case rel =>
          rw [unhide HH]
          exact hide (unhide HSW _)
    · have c1 := (unhide HS).cell (i := a) han
      have f1 := (unhide HS).fro a
      have c2 := (unhide HS).cell (i := p) hpn
      have f2 := (unhide HS).fro p
      obtain ⟨x, hx⟩ : ∃ x, x = f a := ⟨_, rfl⟩
      obtain ⟨y, hy⟩ : ∃ y, y = f p := ⟨_, rfl⟩
      have HSW := hide (fun m0 => ((unhide HS).drewN m0).swap (i := a) (j := p) han hpn hx.symm hy.symm)
      rw [← hx] at c1
      rw [← hy] at c2
      clear hx hy
      go_region_law (fail)
      all_goals
        go_wp2_with fail
        go_meet
        case rel =>
          rw [unhide HH]
          exact hide (unhide HSW _)
  case rest =>
    replace HS := hcut
    clear hcut
    obtain ⟨M, hM⟩ : ∃ M, M = b - 1 := ⟨_, rfl⟩
    have hMI : (b : Int) - 1 = (M : Int) := by omega
    have hMb : M < b := by omega
    have HP := hide (show Wm.Prt a b (a + 1) M h by rw [hM]; exact Wm.Prt.start h hab)
    have HMB := hide hM
    clear hM
    have ha1 : (a : Int) + 1 = ((a + 1 : Nat) : Int) := by omega
    generalize a + 1 = i0 at *
    go_upto_block 0 with fail
    go_cut [10] from 12 to 167 (fun iv wx => ∃ i : Nat, i ≤ b ∧ iv = .int .i64 i ∧ Hid (Wm.Prt a b i M h) ∧ Hid (i ≤ M → h a ≤ h i) ∧ Hid (Sl w wx base g n c h))
    case first =>
      go_wp2_with fail
      go_loopw [10] (fun vv wz => ∃ i : Nat, i ≤ b ∧ vv = .int .i64 i ∧ Hid (Wm.Prt a b i M h) ∧ Hid (Sl w wz base g n c h)) (fun vv _ => b + 1 - (intOf vv).toNat)
      case atStart => exact ⟨_, by omega, rfl, HP, HS⟩
      case round =>
        clear HP HS
        obtain ⟨i, hvb, rfl, HP, HS⟩ := hrel
        by_cases hij : i ≤ M
        · have hai := (unhide HP).ai
          have hjb := (unhide HP).jb
          have q1n : i < n := by omega
          have q2n : a < n := by omega
          have c1 := (unhide HS).cell q1n
          have c2 := (unhide HS).cell q2n
          obtain ⟨x, hx⟩ : ∃ x, x = h i := ⟨_, rfl⟩
          obtain ⟨y, hy⟩ : ∃ y, y = h a := ⟨_, rfl⟩
          have CX := hide (fun w : World => unhide CL x y w)
          have HXY := hide (And.intro hx hy)
          rw [← hx] at c1
          rw [← hy] at c2
          have hj1 : ((i : Nat) : Int) - 1 = ((i - 1 : Nat) : Int) := by omega
          clear hx hy
          by_cases hl : x < y
          · rw [decide_eq_true hl] at CX
            have HP2 := hide (Wm.Prt.up (unhide HP) hij (by have := unhide HXY; omega))
            go_wp2
            go_quiet ((go_at_call 67; with_reducible exact Calls.quiet_of (unhide CX _)))
            go_wp2
            go_roundw
            case rel => exact ⟨i + 1, by omega, by go_num, HP2, hide ((unhide HS).drewN _)⟩
            case measure => simp [intOf]; omega
          · rw [decide_eq_false hl] at CX
            have HE : Hid (i ≤ M → h a ≤ h i) := hide (fun _ => by have := unhide HXY; omega)
            go_wp2
            go_quiet ((go_at_call 67; with_reducible exact Calls.quiet_of (unhide CX _)))
            go_wp2
            go_meet
            case rel => exact ⟨i, hvb, rfl, HP, HE, hide ((unhide HS).drewN _)⟩
        · have HE : Hid (i ≤ M → h a ≤ h i) := hide (fun hh => absurd hh (by omega))
          have hijI : ¬ ((i : Nat) : Int) ≤ ((M : Nat) : Int) := by omega
          have hijB : decide (((i : Nat) : Int) ≤ ((M : Nat) : Int)) = false := decide_eq_false hijI
          go_wp2
          go_quiet (fail)
          go_wp2
          go_meet
          case rel => exact ⟨i, hvb, rfl, HP, HE, hide ((unhide HS).drewN _)⟩
    case rest =>
      clear HP HS
      obtain ⟨i, hib, rfl, HP, HE1, HS⟩ := hcut
      go_upto_block 2 with fail
      go_cut [11] from 12 to 167 (fun jv wx => ∃ j : Nat, j ≤ b ∧ jv = .int .i64 j ∧ Hid (Wm.Prt a b i j h) ∧ Hid (i ≤ j → h j < h a) ∧ Hid (Sl w wx base g n c h))
      case first =>
        go_wp2_with fail
        go_loopw [11] (fun vv wz => ∃ j : Nat, j ≤ b ∧ vv = .int .i64 j ∧ Hid (Wm.Prt a b i j h) ∧ Hid (Sl w wz base g n c h)) (fun vv _ => (intOf vv).toNat)
        case atStart => exact ⟨_, by omega, rfl, HP, HS⟩
        case round =>
          clear HP HS
          obtain ⟨j, hvb, rfl, HP, HS⟩ := hrel
          by_cases hij : i ≤ j
          · have hai := (unhide HP).ai
            have hjb := (unhide HP).jb
            have q1n : j < n := by omega
            have q2n : a < n := by omega
            have c1 := (unhide HS).cell q1n
            have c2 := (unhide HS).cell q2n
            obtain ⟨x, hx⟩ : ∃ x, x = h j := ⟨_, rfl⟩
            obtain ⟨y, hy⟩ : ∃ y, y = h a := ⟨_, rfl⟩
            have CX := hide (fun w : World => unhide CL x y w)
            have HXY := hide (And.intro hx hy)
            rw [← hx] at c1
            rw [← hy] at c2
            have hj1 : ((j : Nat) : Int) - 1 = ((j - 1 : Nat) : Int) := by omega
            clear hx hy
            by_cases hl : ¬ x < y
            · rw [decide_eq_false hl] at CX
              have HP2 := hide (Wm.Prt.down (unhide HP) hij (by have := unhide HXY; omega))
              go_wp2
              go_quiet ((go_at_call 67; with_reducible exact Calls.quiet_of (unhide CX _)))
              go_wp2
              go_roundw
              case rel => exact ⟨j - 1, by omega, by go_num, HP2, hide ((unhide HS).drewN _)⟩
              case measure => simp [intOf]; omega
            · rw [decide_eq_true (show x < y by omega)] at CX
              have HE : Hid (i ≤ j → h j < h a) := hide (fun _ => by have := unhide HXY; omega)
              go_wp2
              go_quiet ((go_at_call 67; with_reducible exact Calls.quiet_of (unhide CX _)))
              go_wp2
              go_meet
              case rel => exact ⟨j, hvb, rfl, HP, HE, hide ((unhide HS).drewN _)⟩
          · have HE : Hid (i ≤ j → h j < h a) := hide (fun hh => absurd hh (by omega))
            have hijI : ¬ ((i : Nat) : Int) ≤ ((j : Nat) : Int) := by omega
            have hijB : decide (((i : Nat) : Int) ≤ ((j : Nat) : Int)) = false := decide_eq_false hijI
            go_wp2
            go_quiet (fail)
            go_wp2
            go_meet
            case rel => exact ⟨j, hvb, rfl, HP, HE, hide ((unhide HS).drewN _)⟩
      case rest =>
        have HLE := hide (show ∀ j, j ≤ M → i ≤ j → h a ≤ h i from fun j h1 h2 => unhide HE1 (by omega))
        clear HP HS HE1
        obtain ⟨j, hjb, rfl, HP, HE2, HS⟩ := hcut
        have HE3 := hide (fun (hij : i ≤ j) => unhide HLE j (by have := (unhide HP).jb; have := unhide HMB; omega) hij)
        by_cases hji : j < i
        · have HD := hide ((unhide HP).done hji)
          have haj := (unhide HP).aj
          have hjb2 := (unhide HP).jb
          have HF2 := hide ((unhide HF).step (i := j) (j := a) ⟨haj, hjb2⟩ ⟨Nat.le_refl _, by omega⟩)
          have hjn : j < n := by omega
          have han : a < n := by omega
          by_cases hja : j = a
          · subst hja
            have c1 := (unhide HS).cell (i := j) hjn
            have f1 := (unhide HS).fro j
            obtain ⟨x, hx⟩ : ∃ x, x = h j := ⟨_, rfl⟩
            have HSW := hide (fun m => ((unhide HS).drewN m).swap_self (i := j) hjn hx.symm)
            rw [← hx] at c1
            clear hx
            go_wp2
            go_region_law (fail)
            all_goals
              go_wp2
              refine bodyPost_ret (results_tmp2 rfl _ _ _) rfl ?_
              exact ⟨j, true, rfl, _, unhide HF2, unhide HD, unhide HSW _⟩
          · have c1 := (unhide HS).cell (i := j) hjn
            have f1 := (unhide HS).fro j
            have c2 := (unhide HS).cell (i := a) han
            have f2 := (unhide HS).fro a
            obtain ⟨x, hx⟩ : ∃ x, x = h j := ⟨_, rfl⟩
            obtain ⟨y, hy⟩ : ∃ y, y = h a := ⟨_, rfl⟩
            have HSW := hide (fun m0 => ((unhide HS).drewN m0).swap (i := j) (j := a) hjn han hx.symm hy.symm)
            rw [← hx] at c1
            rw [← hy] at c2
            clear hx hy
            go_wp2
            go_region_law (fail)
            all_goals
              go_wp2
              refine bodyPost_ret (results_tmp2 rfl _ _ _) rfl ?_
              exact ⟨j, true, rfl, _, unhide HF2, unhide HD, unhide HSW _⟩
        · have hij : i ≤ j := by omega
          have hajx := (unhide HP).aj
          have hai := (unhide HP).ai
          have hjb2 := (unhide HP).jb
          have hijl : i < j := by
            have h1 := unhide HE2 hij
            have h2 := unhide HE3 hij
            rcases Nat.lt_or_ge i j with h | h
            · exact h
            · have : i = j := by omega
              subst this
              omega
          have HPB := hide ((unhide HP).both hijl (unhide HE3 hij) (unhide HE2 hij))
          have HFB := hide ((unhide HF).step (i := i) (j := j) ⟨by omega, by omega⟩ ⟨by omega, hjb2⟩)
          have hin : i < n := by omega
          have hjn : j < n := by omega
          have hne : i ≠ j := by omega
          go_upto_region 10 with fail
          go_cut [] from 12 to 167 (fun wx => Hid (Sl w wx base g n c (Wm.swf h i j)))
          case first =>
            have c1 := (unhide HS).cell (i := i) hin
            have f1 := (unhide HS).fro i
            have c2 := (unhide HS).cell (i := j) hjn
            have f2 := (unhide HS).fro j
            obtain ⟨x, hx⟩ : ∃ x, x = h i := ⟨_, rfl⟩
            obtain ⟨y, hy⟩ : ∃ y, y = h j := ⟨_, rfl⟩
            have HSW := hide (fun m0 => ((unhide HS).drewN m0).swap (i := i) (j := j) hin hjn hx.symm hy.symm)
            rw [← hx] at c1
            rw [← hy] at c2
            clear hx hy
            go_region_law (fail)
            all_goals
              go_wp2_with fail
              go_meet
              case rel => exact hide (unhide HSW _)
          case rest =>
            clear HS HP HF HE2 HE3 HLE
            have HS := hcut
            clear hcut
            have hj1 : (j : Int) - 1 = ((j - 1 : Nat) : Int) := by omega
            have hi1 : (i : Int) + 1 = ((i + 1 : Nat) : Int) := by omega
            have hi1b : i + 1 ≤ b := by omega
            have hj1b : j - 1 ≤ b := by omega
            generalize Wm.swf h i j = h0 at *
            generalize hii : i + 1 = i1 at *
            generalize hjj : j - 1 = j1 at *
            clear hii hjj hij hijl hne hin hjn hai hajx hjb2 hji hjb hib
            go_wp2_with fail
            go_loopw [10, 11] (fun iv jv wz => ∃ (i j : Nat) (h : Nat → Nat), i ≤ b ∧ j ≤ b ∧ iv = .int .i64 i ∧ jv = .int .i64 j ∧ Hid (Wm.Prt a b i j h) ∧ Hid (Wm.Shuf a b f h) ∧ Hid (Sl w wz base g n c h)) (fun iv jv _ => ((intOf jv) + 1 - (intOf iv)).toNat)
            case atStart => exact ⟨_, _, _, hi1b, hj1b, rfl, rfl, HPB, HFB, HS⟩
            case round =>
              clear HPB HFB HS hi1b hj1b hi1 hj1
              obtain ⟨i0, j0, h, hi0, hj0, rfl, rfl, HP, HF, HS⟩ := hrel
              have HIJ0 := hide (show ∀ i j, Wm.Prt a b i j h → i0 ≤ i → j ≤ j0 → True from fun _ _ _ _ _ => trivial)
              go_upto_block 6 with fail
              go_cut [10] from 99 to 152 (fun iv wx => ∃ i : Nat, i ≤ b ∧ i0 ≤ i ∧ iv = .int .i64 i ∧ Hid (Wm.Prt a b i j0 h) ∧ Hid (i ≤ j0 → h a ≤ h i) ∧ Hid (Sl w wx base g n c h))
              case first =>
                go_wp2_with fail
                go_loopw [10] (fun vv wz => ∃ i : Nat, i ≤ b ∧ i0 ≤ i ∧ vv = .int .i64 i ∧ Hid (Wm.Prt a b i j0 h) ∧ Hid (Sl w wz base g n c h)) (fun vv _ => b + 1 - (intOf vv).toNat)
                case atStart => exact ⟨_, by omega, Nat.le_refl _, rfl, HP, HS⟩
                case round =>
                  clear HP HS
                  obtain ⟨i, hvb, hlb, rfl, HP, HS⟩ := hrel
                  by_cases hij : i ≤ j0
                  · have hai := (unhide HP).ai
                    have hjb := (unhide HP).jb
                    have q1n : i < n := by omega
                    have q2n : a < n := by omega
                    have c1 := (unhide HS).cell q1n
                    have c2 := (unhide HS).cell q2n
                    obtain ⟨x, hx⟩ : ∃ x, x = h i := ⟨_, rfl⟩
                    obtain ⟨y, hy⟩ : ∃ y, y = h a := ⟨_, rfl⟩
                    have CX := hide (fun w : World => unhide CL x y w)
                    have HXY := hide (And.intro hx hy)
                    rw [← hx] at c1
                    rw [← hy] at c2
                    have hj1 : ((i : Nat) : Int) - 1 = ((i - 1 : Nat) : Int) := by omega
                    clear hx hy
                    by_cases hl : x < y
                    · rw [decide_eq_true hl] at CX
                      have HP2 := hide (Wm.Prt.up (unhide HP) hij (by have := unhide HXY; omega))
                      go_wp2
                      go_quiet ((go_at_call 67; with_reducible exact Calls.quiet_of (unhide CX _)))
                      go_wp2
                      go_roundw
                      case rel => exact ⟨i + 1, by omega, (by omega), by go_num, HP2, hide ((unhide HS).drewN _)⟩
                      case measure => simp [intOf]; omega
                    · rw [decide_eq_false hl] at CX
                      have HE : Hid (i ≤ j0 → h a ≤ h i) := hide (fun _ => by have := unhide HXY; omega)
                      go_wp2
                      go_quiet ((go_at_call 67; with_reducible exact Calls.quiet_of (unhide CX _)))
                      go_wp2
                      go_meet
                      case rel => exact ⟨i, hvb, hlb, rfl, HP, HE, hide ((unhide HS).drewN _)⟩
                  · have HE : Hid (i ≤ j0 → h a ≤ h i) := hide (fun hh => absurd hh (by omega))
                    have hijI : ¬ ((i : Nat) : Int) ≤ ((j0 : Nat) : Int) := by omega
                    have hijB : decide (((i : Nat) : Int) ≤ ((j0 : Nat) : Int)) = false := decide_eq_false hijI
                    go_wp2
                    go_quiet (fail)
                    go_wp2
                    go_meet
                    case rel => exact ⟨i, hvb, hlb, rfl, HP, HE, hide ((unhide HS).drewN _)⟩
              case rest =>
                clear HP HS
                obtain ⟨i, hib, hi0i, rfl, HP, HE1, HS⟩ := hcut
                go_upto_block 8 with fail
                go_cut [11] from 99 to 152 (fun jv wx => ∃ j : Nat, j ≤ b ∧ j ≤ j0 ∧ jv = .int .i64 j ∧ Hid (Wm.Prt a b i j h) ∧ Hid (i ≤ j → h j < h a) ∧ Hid (Sl w wx base g n c h))
                case first =>
                  go_wp2_with fail
                  go_loopw [11] (fun vv wz => ∃ j : Nat, j ≤ b ∧ j ≤ j0 ∧ vv = .int .i64 j ∧ Hid (Wm.Prt a b i j h) ∧ Hid (Sl w wz base g n c h)) (fun vv _ => (intOf vv).toNat)
                  case atStart => exact ⟨_, by omega, Nat.le_refl _, rfl, HP, HS⟩
                  case round =>
                    clear HP HS
                    obtain ⟨j, hvb, hlb, rfl, HP, HS⟩ := hrel
                    by_cases hij : i ≤ j
                    · have hai := (unhide HP).ai
                      have hjb := (unhide HP).jb
                      have q1n : j < n := by omega
                      have q2n : a < n := by omega
                      have c1 := (unhide HS).cell q1n
                      have c2 := (unhide HS).cell q2n
                      obtain ⟨x, hx⟩ : ∃ x, x = h j := ⟨_, rfl⟩
                      obtain ⟨y, hy⟩ : ∃ y, y = h a := ⟨_, rfl⟩
                      have CX := hide (fun w : World => unhide CL x y w)
                      have HXY := hide (And.intro hx hy)
                      rw [← hx] at c1
                      rw [← hy] at c2
                      have hj1 : ((j : Nat) : Int) - 1 = ((j - 1 : Nat) : Int) := by omega
                      clear hx hy
                      by_cases hl : ¬ x < y
                      · rw [decide_eq_false hl] at CX
                        have HP2 := hide (Wm.Prt.down (unhide HP) hij (by have := unhide HXY; omega))
                        go_wp2
                        go_quiet ((go_at_call 67; with_reducible exact Calls.quiet_of (unhide CX _)))
                        go_wp2
                        go_roundw
                        case rel => exact ⟨j - 1, by omega, (by omega), by go_num, HP2, hide ((unhide HS).drewN _)⟩
                        case measure => simp [intOf]; omega
                      · rw [decide_eq_true (show x < y by omega)] at CX
                        have HE : Hid (i ≤ j → h j < h a) := hide (fun _ => by have := unhide HXY; omega)
                        go_wp2
                        go_quiet ((go_at_call 67; with_reducible exact Calls.quiet_of (unhide CX _)))
                        go_wp2
                        go_meet
                        case rel => exact ⟨j, hvb, hlb, rfl, HP, HE, hide ((unhide HS).drewN _)⟩
                    · have HE : Hid (i ≤ j → h j < h a) := hide (fun hh => absurd hh (by omega))
                      have hijI : ¬ ((i : Nat) : Int) ≤ ((j : Nat) : Int) := by omega
                      have hijB : decide (((i : Nat) : Int) ≤ ((j : Nat) : Int)) = false := decide_eq_false hijI
                      go_wp2
                      go_quiet (fail)
                      go_wp2
                      go_meet
                      case rel => exact ⟨j, hvb, hlb, rfl, HP, HE, hide ((unhide HS).drewN _)⟩
                case rest =>
                  have HLE := hide (show ∀ j, j ≤ j0 → i ≤ j → h a ≤ h i from fun j h1 h2 => unhide HE1 (by omega))
                  clear HP HS HE1
                  obtain ⟨j, hjb, hj0j, rfl, HP, HE2, HS⟩ := hcut
                  have HE3 := hide (fun (hij : i ≤ j) => unhide HLE j hj0j hij)
                  by_cases hji : j < i
                  · have HD := hide ((unhide HP).done hji)
                    have haj := (unhide HP).aj
                    have hjb2 := (unhide HP).jb
                    have HF2 := hide ((unhide HF).step (i := j) (j := a) ⟨haj, hjb2⟩ ⟨Nat.le_refl _, by omega⟩)
                    have hjn : j < n := by omega
                    have han : a < n := by omega
                    by_cases hja : j = a
                    · subst hja
                      have c1 := (unhide HS).cell (i := j) hjn
                      have f1 := (unhide HS).fro j
                      obtain ⟨x, hx⟩ : ∃ x, x = h j := ⟨_, rfl⟩
                      have HSW := hide (fun m => ((unhide HS).drewN m).swap_self (i := j) hjn hx.symm)
                      rw [← hx] at c1
                      clear hx
                      go_wp2
                      go_region_law (fail)
                      all_goals
                        go_wp2
                        refine bodyPost_ret (results_tmp2 rfl _ _ _) rfl ?_
                        exact ⟨j, false, rfl, _, unhide HF2, unhide HD, unhide HSW _⟩
                    · have c1 := (unhide HS).cell (i := j) hjn
                      have f1 := (unhide HS).fro j
                      have c2 := (unhide HS).cell (i := a) han
                      have f2 := (unhide HS).fro a
                      obtain ⟨x, hx⟩ : ∃ x, x = h j := ⟨_, rfl⟩
                      obtain ⟨y, hy⟩ : ∃ y, y = h a := ⟨_, rfl⟩
                      have HSW := hide (fun m0 => ((unhide HS).drewN m0).swap (i := j) (j := a) hjn han hx.symm hy.symm)
                      rw [← hx] at c1
                      rw [← hy] at c2
                      clear hx hy
                      go_wp2
                      go_region_law (fail)
                      all_goals
                        go_wp2
                        refine bodyPost_ret (results_tmp2 rfl _ _ _) rfl ?_
                        exact ⟨j, false, rfl, _, unhide HF2, unhide HD, unhide HSW _⟩
                  · have hij : i ≤ j := by omega
                    have hajx := (unhide HP).aj
                    have hai := (unhide HP).ai
                    have hjb2 := (unhide HP).jb
                    have hijl : i < j := by
                      have h1 := unhide HE2 hij
                      have h2 := unhide HE3 hij
                      rcases Nat.lt_or_ge i j with h | h
                      · exact h
                      · have : i = j := by omega
                        subst this
                        omega
                    have HPB := hide ((unhide HP).both hijl (unhide HE3 hij) (unhide HE2 hij))
                    have HFB := hide ((unhide HF).step (i := i) (j := j) ⟨by omega, by omega⟩ ⟨by omega, hjb2⟩)
                    have hin : i < n := by omega
                    have hjn : j < n := by omega
                    have hne : i ≠ j := by omega
                    have hj1 : (j : Int) - 1 = ((j - 1 : Nat) : Int) := by omega
                    have c1 := (unhide HS).cell (i := i) hin
                    have f1 := (unhide HS).fro i
                    have c2 := (unhide HS).cell (i := j) hjn
                    have f2 := (unhide HS).fro j
                    obtain ⟨x, hx⟩ : ∃ x, x = h i := ⟨_, rfl⟩
                    obtain ⟨y, hy⟩ : ∃ y, y = h j := ⟨_, rfl⟩
                    have HSW := hide (fun m0 => ((unhide HS).drewN m0).swap (i := i) (j := j) hin hjn hx.symm hy.symm)
                    rw [← hx] at c1
                    rw [← hy] at c2
                    clear hx hy
                    go_wp2_with fail
                    go_region_law (fail)
                    all_goals
                      go_wp2
                      go_roundw
                      case rel => exact ⟨i + 1, j - 1, _, by omega, by omega, by go_num, by go_num, HPB, HFB, hide (unhide HSW _)⟩
                      case measure => simp [intOf]; omega
end Go.Proofs.Ytkebldjepdhioaa

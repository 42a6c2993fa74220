/-
  partitionEqualOrdered at uint16.
-/
import Derived.Test.YtkebldjepdhioaaSrt3
import Derived.Deep.Cut
import Derived.Deep.CutRange
import Derived.Deep.CutBlock
set_option linter.unusedVariables false
set_option linter.unusedSimpArgs false
namespace Go.Proofs.Ytkebldjepdhioaa
open Go.RowKit Go.BigFrame

def EqPost (w : World) (base g n c a b : Nat) (f : Nat → Nat) (e : Ending) (w' : World) : Prop := ∃ mid : Nat, e = .returned (.int .i64 (mid : Int)) ∧ SrtPost w base g n c a b f (fun f' => Wm.Prte a b mid f' ∧ ∀ k, a ≤ k → k < b → f' a ≤ f' k) w'
set_option maxRecDepth 100000 in
set_option maxHeartbeats 8000000 in
theorem partEq_u16 (base g n c a b p : Nat) (f : Nat → Nat) (w : World) (S : Sl w w base g n c f) (hap : a ≤ p) (hpb : p < b) (hb : b ≤ n) (hn : n ≤ 1000) (hlow : ∀ k, a ≤ k → k < b → f p ≤ f k) :
    Calls Try.prog 68 #[.slice (some ⟨g, 0, none⟩) n c, .int .i64 a, .int .i64 b, .int .i64 p] w fun e w' => EqPost w base g n c a b f e w' := by
  have HS := hide S
  have CL := hide (fun (x y : Nat) (w : World) => Less_u16 x y w)
  have han : a < n := by omega
  have hpn : p < n := by omega
  have hF := Wm.Shuf.swap f (a := a) (b := b) (i := a) (j := p) ⟨Nat.le_refl _, by omega⟩ ⟨hap, hpb⟩
  have hLO := Wm.low_front ⟨hap, hpb⟩ hlow
  obtain ⟨h, hh⟩ : ∃ h, h = Wm.swf f a p := ⟨_, rfl⟩
  rw [← hh] at hF hLO
  have HF := hide hF
  have HH := hide hh
  have HLO := hide hLO
  clear S hF hh hLO hlow
  go_enter Try.func68, Try.ntmps68
  go_upto_region 1 with fail
  go_cut [] from 11 to 24 (fun wx => Hid (Sl w wx base g n c h))
  case first =>
    by_cases e : p = a
    · subst e
      have c1 := (unhide HS).cell (i := p) hpn
      have f1 := (unhide HS).fro p
      obtain ⟨x, hx⟩ : ∃ x, x = f p := ⟨_, rfl⟩
      have HSW := hide (fun m => ((unhide HS).drewN m).swap_self (i := p) hpn hx.symm)
      rw [← hx] at c1
      clear hx
      go_region_law (fail)
      all_goals
        go_wp2_with fail
        go_meet
        case rel =>
          rw [unhide HH]
          exact hide (unhide HSW _)
    · have c1 := (unhide HS).cell (i := a) han
      have f1 := (unhide HS).fro a
      have c2 := (unhide HS).cell (i := p) hpn
      have f2 := (unhide HS).fro p
      obtain ⟨x, hx⟩ : ∃ x, x = f a := ⟨_, rfl⟩
      obtain ⟨y, hy⟩ : ∃ y, y = f p := ⟨_, rfl⟩
      have HSW := hide (fun m0 => ((unhide HS).drewN m0).swap (i := a) (j := p) han hpn hx.symm hy.symm)
      rw [← hx] at c1
      rw [← hy] at c2
      clear hx hy
      go_region_law (fail)
      all_goals
        go_wp2_with fail
        go_meet
        case rel =>
          rw [unhide HH]
          exact hide (unhide HSW _)
  case rest =>
    replace HS := hcut
    clear hcut
    obtain ⟨M, hM⟩ : ∃ M, M = b - 1 := ⟨_, rfl⟩
    have hMI : (b : Int) - 1 = (M : Int) := by omega
    have hMb : M ≤ b := by omega
    have HP := hide (show Wm.Pre a b (a + 1) M h by rw [hM]; exact Wm.Pre.start h (by omega))
    have ha1 : (a : Int) + 1 = ((a + 1 : Nat) : Int) := by omega
    have ha1b : a + 1 ≤ b := by omega
    clear hM
    generalize a + 1 = i0 at *
    go_wp2_with fail
    go_loopw [9, 10] (fun iv jv wz => ∃ (i j : Nat) (h : Nat → Nat), i ≤ b ∧ j ≤ b ∧ iv = .int .i64 i ∧ jv = .int .i64 j ∧ Hid (Wm.Pre a b i j h) ∧ Hid (Wm.Shuf a b f h) ∧ Hid (∀ k, a ≤ k → k < b → h a ≤ h k) ∧ Hid (Sl w wz base g n c h)) (fun iv jv _ => ((intOf jv) + 1 - (intOf iv)).toNat)
    case atStart => exact ⟨_, _, _, ha1b, hMb, rfl, rfl, HP, HF, HLO, HS⟩
    case round =>
      clear HP HF HS ha1b ha1 HLO HH hMI hMb
      obtain ⟨i0, j0, h, hi0, hj0, rfl, rfl, HP, HF, HLO, HS⟩ := hrel
      go_upto_block 2 with fail
      go_cut [9] from 29 to 82 (fun iv wx => ∃ i : Nat, i ≤ b ∧ i0 ≤ i ∧ iv = .int .i64 i ∧ Hid (Wm.Pre a b i j0 h) ∧ Hid (i ≤ j0 → h a < h i) ∧ Hid (Sl w wx base g n c h))
      case first =>
        go_wp2_with fail
        go_loopw [9] (fun vv wz => ∃ i : Nat, i ≤ b ∧ i0 ≤ i ∧ vv = .int .i64 i ∧ Hid (Wm.Pre a b i j0 h) ∧ Hid (Sl w wz base g n c h)) (fun vv _ => b + 1 - (intOf vv).toNat)
        case atStart => exact ⟨_, by omega, Nat.le_refl _, rfl, HP, HS⟩
        case round =>
          clear HP HS
          obtain ⟨i, hvb, hlb, rfl, HP, HS⟩ := hrel
          by_cases hij : i ≤ j0
          · have hai := (unhide HP).ai
            have hjb := (unhide HP).jb
            have q1n : a < n := by omega
            have q2n : i < n := by omega
            have c1 := (unhide HS).cell q1n
            have c2 := (unhide HS).cell q2n
            obtain ⟨x, hx⟩ : ∃ x, x = h a := ⟨_, rfl⟩
            obtain ⟨y, hy⟩ : ∃ y, y = h i := ⟨_, rfl⟩
            have CX := hide (fun w : World => unhide CL x y w)
            have HXY := hide (And.intro hx hy)
            rw [← hx] at c1
            rw [← hy] at c2
            have hj1 : ((i : Nat) : Int) - 1 = ((i - 1 : Nat) : Int) := by omega
            clear hx hy
            by_cases hl : ¬ x < y
            · rw [decide_eq_false hl] at CX
              have HP2 := hide (Wm.Pre.up (unhide HP) hij (by have := unhide HXY; omega))
              go_wp2
              go_quiet ((go_at_call 67; with_reducible exact Calls.quiet_of (unhide CX _)))
              go_wp2
              go_roundw
              case rel => exact ⟨i + 1, by omega, (by omega), by go_num, HP2, hide ((unhide HS).drewN _)⟩
              case measure => simp [intOf]; omega
            · rw [decide_eq_true (show x < y by omega)] at CX
              have HE : Hid (i ≤ j0 → h a < h i) := hide (fun _ => by have := unhide HXY; omega)
              go_wp2
              go_quiet ((go_at_call 67; with_reducible exact Calls.quiet_of (unhide CX _)))
              go_wp2
              go_meet
              case rel => exact ⟨i, hvb, hlb, rfl, HP, HE, hide ((unhide HS).drewN _)⟩
          · have HE : Hid (i ≤ j0 → h a < h i) := hide (fun hh => absurd hh (by omega))
            have hijI : ¬ ((i : Nat) : Int) ≤ ((j0 : Nat) : Int) := by omega
            have hijB : decide (((i : Nat) : Int) ≤ ((j0 : Nat) : Int)) = false := decide_eq_false hijI
            go_wp2
            go_quiet (fail)
            go_wp2
            go_meet
            case rel => exact ⟨i, hvb, hlb, rfl, HP, HE, hide ((unhide HS).drewN _)⟩
      case rest =>
        clear HP HS
        obtain ⟨i, hib, hi0i, rfl, HP, HE1, HS⟩ := hcut
        go_upto_block 4 with fail
        go_cut [10] from 29 to 82 (fun jv wx => ∃ j : Nat, j ≤ b ∧ j ≤ j0 ∧ jv = .int .i64 j ∧ Hid (Wm.Pre a b i j h) ∧ Hid (i ≤ j → h j ≤ h a) ∧ Hid (Sl w wx base g n c h))
        case first =>
          go_wp2_with fail
          go_loopw [10] (fun vv wz => ∃ j : Nat, j ≤ b ∧ j ≤ j0 ∧ vv = .int .i64 j ∧ Hid (Wm.Pre a b i j h) ∧ Hid (Sl w wz base g n c h)) (fun vv _ => (intOf vv).toNat)
          case atStart => exact ⟨_, by omega, Nat.le_refl _, rfl, HP, HS⟩
          case round =>
            clear HP HS
            obtain ⟨j, hvb, hlb, rfl, HP, HS⟩ := hrel
            by_cases hij : i ≤ j
            · have hai := (unhide HP).ai
              have hjb := (unhide HP).jb
              have q1n : a < n := by omega
              have q2n : j < n := by omega
              have c1 := (unhide HS).cell q1n
              have c2 := (unhide HS).cell q2n
              obtain ⟨x, hx⟩ : ∃ x, x = h a := ⟨_, rfl⟩
              obtain ⟨y, hy⟩ : ∃ y, y = h j := ⟨_, rfl⟩
              have CX := hide (fun w : World => unhide CL x y w)
              have HXY := hide (And.intro hx hy)
              rw [← hx] at c1
              rw [← hy] at c2
              have hj1 : ((j : Nat) : Int) - 1 = ((j - 1 : Nat) : Int) := by omega
              clear hx hy
              by_cases hl : x < y
              · rw [decide_eq_true hl] at CX
                have HP2 := hide (Wm.Pre.down (unhide HP) hij (by have := unhide HXY; omega))
                go_wp2
                go_quiet ((go_at_call 67; with_reducible exact Calls.quiet_of (unhide CX _)))
                go_wp2
                go_roundw
                case rel => exact ⟨j - 1, by omega, (by omega), by go_num, HP2, hide ((unhide HS).drewN _)⟩
                case measure => simp [intOf]; omega
              · rw [decide_eq_false hl] at CX
                have HE : Hid (i ≤ j → h j ≤ h a) := hide (fun _ => by have := unhide HXY; omega)
                go_wp2
                go_quiet ((go_at_call 67; with_reducible exact Calls.quiet_of (unhide CX _)))
                go_wp2
                go_meet
                case rel => exact ⟨j, hvb, hlb, rfl, HP, HE, hide ((unhide HS).drewN _)⟩
            · have HE : Hid (i ≤ j → h j ≤ h a) := hide (fun hh => absurd hh (by omega))
              have hijI : ¬ ((i : Nat) : Int) ≤ ((j : Nat) : Int) := by omega
              have hijB : decide (((i : Nat) : Int) ≤ ((j : Nat) : Int)) = false := decide_eq_false hijI
              go_wp2
              go_quiet (fail)
              go_wp2
              go_meet
              case rel => exact ⟨j, hvb, hlb, rfl, HP, HE, hide ((unhide HS).drewN _)⟩
        case rest =>
          have HLE := hide (show ∀ j, j ≤ j0 → i ≤ j → h a < h i from fun j h1 h2 => unhide HE1 (by omega))
          clear HP HS HE1
          obtain ⟨j, hjb, hj0j, rfl, HP, HE2, HS⟩ := hcut
          have HE3 := hide (fun (hij : i ≤ j) => unhide HLE j hj0j hij)
          by_cases hji : j < i
          · have HD := hide ((unhide HP).done hji)
            go_wp2
            go_ret
            exact ⟨i, rfl, h, unhide HF, ⟨unhide HD, unhide HLO⟩, unhide HS⟩
          · have hij : i ≤ j := by omega
            have hai := (unhide HP).ai
            have hjb2 := (unhide HP).jb
            have hijl : i < j := by
              have h1 := unhide HE2 hij
              have h2 := unhide HE3 hij
              rcases Nat.lt_or_ge i j with h | h
              · exact h
              · have : i = j := by omega
                subst this
                omega
            have HPB := hide ((unhide HP).both hijl (unhide HE3 hij) (unhide HE2 hij))
            have HFB := hide ((unhide HF).step (i := i) (j := j) ⟨by omega, by omega⟩ ⟨by omega, hjb2⟩)
            have HLB := hide (Wm.low_step (unhide HLO) (i := i) (j := j) ⟨by omega, by omega⟩ ⟨by omega, hjb2⟩)
            have hin : i < n := by omega
            have hjn : j < n := by omega
            have hne : i ≠ j := by omega
            have hj1 : (j : Int) - 1 = ((j - 1 : Nat) : Int) := by omega
            have c1 := (unhide HS).cell (i := i) hin
            have f1 := (unhide HS).fro i
            have c2 := (unhide HS).cell (i := j) hjn
            have f2 := (unhide HS).fro j
            obtain ⟨x, hx⟩ : ∃ x, x = h i := ⟨_, rfl⟩
            obtain ⟨y, hy⟩ : ∃ y, y = h j := ⟨_, rfl⟩
            have HSW := hide (fun m0 => ((unhide HS).drewN m0).swap (i := i) (j := j) hin hjn hx.symm hy.symm)
            rw [← hx] at c1
            rw [← hy] at c2
            clear hx hy
            go_wp2_with fail
            go_region_law (fail)
            all_goals
              go_wp2
              go_roundw
              case rel => exact ⟨i + 1, j - 1, _, by omega, by omega, by go_num, by go_num, HPB, HFB, HLB, hide (unhide HSW _)⟩
              case measure => simp [intOf]; omega
end Go.Proofs.Ytkebldjepdhioaa

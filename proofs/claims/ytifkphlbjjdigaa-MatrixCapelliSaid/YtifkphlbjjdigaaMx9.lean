/-
  The contract of grid.Powers.
-/
import Derived.Test.YtifkphlbjjdigaaMx8
set_option linter.unusedVariables false
set_option linter.unusedSimpArgs false
namespace Go.Proofs.Ytifkphlbjjdigaa
open Go.RowKit Go.BigFrame Wm.Fld

theorem clip_bytes (A : Option Addr) (n c : Nat) (w : World) (h1 : n ≤ c) (h2 : (c : Int) ≤ 9223372036854775807) (hA : A = none → n = 0 ∧ c = 0) :
    Calls Try.prog 44 #[.slice A n c] w fun e w' => e = .returned (.slice A n n) ∧ w' = w := by
  have h3 : (n : Int) ≤ (c : Int) := by omega
  cases A with
  | none =>
    obtain ⟨rfl, rfl⟩ := hA rfl
    go_enter Try.func44, Try.ntmps44
    go_wp2
    go_ret
    exact ⟨rfl, rfl⟩
  | some a =>
    clear hA
    go_enter Try.func44, Try.ntmps44
    go_wp2
    go_ret
    exact ⟨rfl, rfl⟩


def powM (l : List Nat) : Nat → Nat → Nat := fun i j => Wm.fpow (l.getD i 0) j
set_option maxRecDepth 100000 in
set_option maxHeartbeats 4000000 in
theorem Powers_ok (A : Option Addr) (n c N : Nat) (l : List Nat) (w : World) (R : Row w A n 1 (nats .u8 l)) (hnc : n ≤ c) (hc63 : c ≤ 9223372036854775807) (hl8 : ∀ x ∈ l, x < 256) (h : gridErr l = 0) (h1 : 1 ≤ N) (hN : N ≤ 12) :
    Calls Try.prog 25 #[.slice A n c, .int .i64 (N : Int)] w fun e w' => (∃ g bl cp, e = .returned (.tuple #[.slice (some ⟨g, 0, none⟩) n n, .int .i64 0]) ∧ Tb w' w.heap.size g n bl cp N (powM l)) ∧ Ext w w' := by
  obtain ⟨a1, a2, -⟩ := gridErr_ok h
  have hlen := R.numN
  rw [hlen] at a1 a2
  have CG := hide (gcheck_any A n c l w R hnc hc63)
  rw [h] at CG
  have CP := hide (fun (x j : Nat) (hx : x < 256) (hj : j ≤ 12) (w : World) => fpow_any x j hx (by omega) w)
  have HR := hide R
  have HL8 := hide (show ∀ i, l.getD i 0 < 256 from fun i => by
    rw [List.getD_eq_getElem?_getD]
    cases e : l[i]? with
    | none => show 0 < 256; omega
    | some x => exact hl8 x (List.mem_of_getElem? e))
  have hmk : ∀ w : World, (Instr.makeSlice 22 (.int .i64 (n : Int)) (.int .i64 (n : Int))).run Try.prog w = .ok (.slice (some ⟨w.heap.size, 0, none⟩) n n) (w.alloc (.cells (madeCells #[.slice none 0 0] n) 26)) := fun w => by
    have := make_run rowM n n (Nat.le_refl _) (by omega) (by omega) w
    rw [Nat.mul_one] at this
    exact this
  have HG0 := hide (Gr.start 5 26 w n N (fun _ => 0) (fun _ => 0) (powM l) (by omega))
  clear R hlen h hl8
  go_enter Try.func25, Try.ntmps25
  go_wp2_with fail
  refine (unhide CG).mono ?_
  rintro e w ⟨rfl, rfl⟩
  go_wp2
  go_loopw [29] (fun i wr => ∃ x : Nat, x ≤ n ∧ i = .int .i64 x ∧ ∃ bl cq : Nat → Nat, Hid (Gr 5 w wr w.heap.size n x N bl cq (powM l) (.slice none 0 0) 0 [])) (fun i _ => n - (intOf i).toNat)
  case atStart => exact ⟨0, Nat.zero_le _, rfl, _, _, HG0⟩
  case round =>
    obtain ⟨x, hx, rfl, bl, cq, HG⟩ := hrel
    by_cases hlt : x < n
    · obtain ⟨b, o, rfl, hb, hc⟩ := ((unhide HR).keep (unhide HG).ext).nat hlt
      obtain ⟨X, hX⟩ : ∃ X, X = l.getD x 0 := ⟨_, rfl⟩
      have hXl : X < 256 := by rw [hX]; exact unhide HL8 x
      rw [← hX] at hc
      have HX := hide hX
      clear hX
      go_wp2
      go_loopw [35] (fun i wz => ∃ j : Nat, j ≤ N ∧ i = .int .i64 j ∧ ∃ v : Value, Hid (Gr 5 w wz w.heap.size n x N bl cq (powM l) v j ((List.range j).map (Wm.fpow X)))) (fun i _ => N - (intOf i).toNat)
      case atStart => exact ⟨0, Nat.zero_le _, rfl, _, HG⟩
      case round =>
        obtain ⟨j, hj, rfl, v, HJ⟩ := hrel
        by_cases hjN : j < N
        · have C := hide (unhide CP X j hXl (by omega) wr)
          have hY : Wm.fpow X j < 256 := Wm.fpow_lt hXl j
          have HXS := hide (show nats .u8 ((List.range (j + 1)).map (Wm.fpow X)) = nats .u8 ((List.range j).map (Wm.fpow X)) ++ [.int .u8 ((Wm.fpow X j : Nat) : Int)] from by rw [List.range_succ, List.map_append, ← nats_append]; rfl)
          obtain ⟨Y, hYY⟩ : ∃ Y, Y = Wm.fpow X j := ⟨_, rfl⟩
          rw [← hYY] at C HXS hY
          clear hYY
          go_wp2_with fail
          refine (unhide C).mono ?_
          rintro e wb ⟨rfl, rfl⟩
          have TA := hide ((unhide HJ).keep ((Ext.refl wb).alloc (.cells #[.int .u8 (Y : Int)] 5)))
          have hcur := (unhide HJ).cur hlt
          have HOW := hide (unhide TA).own
          have HBD := hide (show (j + 1) * 1 ≤ 140737488355328 ∧ j + 1 ≤ 9223372036854775807 by omega)
          have HBS := hide (unhide TA).ext.size
          have HRN := hide (row_new wb #[.int .u8 (Y : Int)] 5 1 1 rfl)
          go_wp2_with (at_builtin; refine stop ?_)
          unfold Stop
          refine wpList_app_any rfl _ _ 26 (by rfl) 5 byteM w.heap.size _ j _ (by rfl) (unhide HOW) (some ⟨wb.heap.size, 0, none⟩) 1 1 [.int .u8 (Y : Int)] (by rfl) (unhide HRN) rfl (unhide HBD) (unhide HBS) ?_
          intro v' w6 hown6 hg6 hat6
          obtain ⟨g6, c6, hv6, -⟩ := row_open hown6 (by omega)
          subst hv6
          obtain ⟨hp1, hp2⟩ := (unhide TA).place hlt hg6
          have TT := hide ((unhide TA).grow hlt (m' := j + 1) (ys := (List.range (j + 1)).map (Wm.fpow X)) (by rw [unhide HXS]; exact hown6) hg6 (by
            rcases hat6 with h | h
            · exact .inl h
            · exact .inr ⟨_, h, Nat.le_refl _⟩))
          clear hown6 hg6 hat6
          go_wp2
          go_roundw
          case rel => exact ⟨j + 1, by omega, by go_num, _, TT⟩
          case measure => simp [intOf]; omega
        · obtain rfl : N = j := by omega
          obtain ⟨g1, c1, hv1, -, -, hc1, hc2, -⟩ := row_open (unhide HJ).own (by omega)
          subst hv1
          have CL := hide (clip_bytes (some ⟨g1, 0, none⟩) N c1 wr hc1 (by unfold maxLen at hc2; omega) (fun h => by cases h))
          obtain ⟨b2, hb2, TC⟩ := (unhide HJ).close hlt (by omega) rfl (f := powM l x) (fun t ht => by
            unfold powM
            rw [← unhide HX, List.getD_eq_getElem?_getD, List.getElem?_map, List.getElem?_range ht]; rfl)
          have HTC := hide (TC.congr (M' := powM l) fun i t _ _ => by
            by_cases c : i = x
            · subst c; rw [upf_same]
            · rw [upf_ne _ _ c])
          have hcur := (unhide HJ).cur hlt
          have hfr := (unhide HJ).hd_f x hlt
          clear TC hb2 hc2
          go_wp2_with fail
          refine (unhide CL).mono ?_
          rintro e w5 ⟨rfl, rfl⟩
          go_wp2
          go_roundw
          case rel => exact ⟨x + 1, by omega, by go_num, _, _, HTC⟩
          case measure => simp [intOf]; omega
    · obtain rfl : n = x := by omega
      have TD := hide ((unhide HG).done fun i j => Wm.fpow_lt (unhide HL8 i) j)
      have HE := hide (unhide HG).ext
      go_wp2
      go_ret2
      exact ⟨⟨_, bl, cq, rfl, unhide TD⟩, unhide HE⟩

/-- Why there are no powers. -/
def powErr (l : List Nat) (N : Int) : Int := if gridErr l ≠ 0 then gridErr l else if N < 1 ∨ 12 < N then 1 else 0
def PowOut (w w' : World) (l : List Nat) (n : Nat) (N : Int) (e : Ending) : Prop :=
  (powErr l N ≠ 0 ∧ e = .returned (.tuple #[.slice none 0 0, .int .i64 (powErr l N)])) ∨
  (powErr l N = 0 ∧ gridErr l = 0 ∧ ∃ m : Nat, N = m ∧ 1 ≤ m ∧ m ≤ 12 ∧ ∃ g bl cp, e = .returned (.tuple #[.slice (some ⟨g, 0, none⟩) n n, .int .i64 0]) ∧ Tb w' w.heap.size g n bl cp m (powM l))
set_option maxRecDepth 100000 in
theorem Powers_any (A : Option Addr) (n c : Nat) (N : Int) (l : List Nat) (w : World) (R : Row w A n 1 (nats .u8 l)) (hnc : n ≤ c) (hc63 : c ≤ 9223372036854775807) (hl8 : ∀ x ∈ l, x < 256) :
    Calls Try.prog 25 #[.slice A n c, .int .i64 N] w fun e w' => PowOut w w' l n N e ∧ Ext w w' := by
  by_cases h : gridErr l = 0
  · by_cases hN : N < 1 ∨ 12 < N
    · have hp : powErr l N = 1 := by unfold powErr; rw [if_neg (by simpa using h), if_pos hN]
      have HO := hide (show PowOut w w l n N (.returned (.tuple #[.slice none 0 0, .int .i64 1])) from .inl ⟨by rw [hp]; decide, by rw [hp]⟩)
      have CG := hide (gcheck_any A n c l w R hnc hc63)
      rw [h] at CG
      by_cases h1 : N < 1
      · clear R hl8 h hp hN
        go_enter Try.func25, Try.ntmps25
        go_wp2_with fail
        refine (unhide CG).mono ?_
        rintro e w ⟨rfl, rfl⟩
        go_wp2
        go_ret2
        exact ⟨unhide HO, Ext.refl _⟩
      · have h2 : 12 < N := by omega
        clear R hl8 h hp hN
        go_enter Try.func25, Try.ntmps25
        go_wp2_with fail
        refine (unhide CG).mono ?_
        rintro e w ⟨rfl, rfl⟩
        go_wp2
        go_ret2
        exact ⟨unhide HO, Ext.refl _⟩
    · have hp : powErr l N = 0 := by unfold powErr; rw [if_neg (by simpa using h), if_neg hN]
      obtain ⟨m, rfl⟩ : ∃ m : Nat, N = m := ⟨N.toNat, by omega⟩
      refine (Powers_ok A n c m l w R hnc hc63 hl8 h (by omega) (by omega)).mono ?_
      rintro e w' ⟨⟨g, bl, cp, he, T⟩, E⟩
      exact ⟨.inr ⟨hp, h, m, rfl, by omega, by omega, g, bl, cp, he, T⟩, E⟩
  · have hp : powErr l N = gridErr l := by unfold powErr; rw [if_pos h]
    have HO := hide (show PowOut w w l n N (.returned (.tuple #[.slice none 0 0, .int .i64 (gridErr l)])) from .inl ⟨by rw [hp]; exact h, by rw [hp]⟩)
    have CG := hide (gcheck_any A n c l w R hnc hc63)
    have hB : (gridErr l != 0) = true := by rw [bne_iff_ne]; exact h
    generalize gridErr l = r at *
    clear R hl8 h hp
    go_enter Try.func25, Try.ntmps25
    go_wp2_with fail
    refine (unhide CG).mono ?_
    rintro e w ⟨rfl, rfl⟩
    go_wp2
    go_ret2
    exact ⟨unhide HO, Ext.refl _⟩
end Go.Proofs.Ytifkphlbjjdigaa

/-
  breakPatternsOrdered at uint16: the range is shuffled.
-/
import Derived.Test.YtkebldjepdhioaaSrt7
set_option linter.unusedVariables false
set_option linter.unusedSimpArgs false
namespace Go.Proofs.Ytkebldjepdhioaa
open Go.RowKit Go.BigFrame

set_option maxRecDepth 100000 in
set_option maxHeartbeats 4000000 in
theorem break_u16 (base g n c a b : Nat) (f : Nat → Nat) (w : World) (S : Sl w w base g n c f) (hab : a + 12 < b) (h64 : b ≤ a + 64) (hb : b ≤ n) (hn : n ≤ 1000) :
    Calls Try.prog 63 #[.slice (some ⟨g, 0, none⟩) n c, .int .i64 a, .int .i64 b] w fun e w' => e = .returned (.tuple #[]) ∧ SrtPost w base g n c a b f (fun _ => True) w' := by
  obtain ⟨L, hL⟩ : ∃ L, L = b - a := ⟨_, rfl⟩
  obtain ⟨v, hv⟩ : ∃ v, v = L / 4 := ⟨_, rfl⟩
  have hLI : (b : Int) - (a : Int) = (L : Int) := by omega
  have hLw : (L : Int) % 18446744073709551616 = (L : Int) := by omega
  have hLw2 : IntKind.u64.wrap (L : Int) = (L : Int) := by rw [IntKind.wrap_u64]; omega
  have hvI : (L : Int).tdiv 4 = (v : Int) := by rw [hv]; rfl
  have hvI2 : (L : Int) / 4 = (v : Int) := by rw [hv]; rfl
  have hvn : v ≤ 16 := by omega
  have hLn : L ≤ 64 := by omega
  have hL12 : 12 < L := by omega
  obtain ⟨i0, hi0⟩ : ∃ i0, i0 = a + v * 2 := ⟨_, rfl⟩
  have hiI : (a : Int) + (v : Int) * 2 = (i0 : Int) := by omega
  have hiI3 : (i0 : Int) - 1 = ((i0 - 1 : Nat) : Int) := by omega
  have hib : a + 1 ≤ i0 ∧ i0 + 1 < b := by omega
  have HB := hide (show a + L = b by omega)
  have hgl := (S.made.lt g rfl).2
  have hgq : g ≠ w.heap.size := by omega
  have HS := hide (S.keep ((Ext.refl w).alloc (.cells #[.int .u64 (L : Int)] 95)))
  have HR := hide (show Rn (w.alloc (.cells #[.int .u64 (L : Int)] 95)) w.heap.size L from ⟨by simp, by simp [go_sem], by simp [go_sem], by omega⟩)
  have CN := hide (fun w : World => nextPow_u16 L (by omega) hLn w)
  have CX := hide (fun (r : Nat) (w' : World) (R : Rn w' w.heap.size r) => Next_u16 w.heap.size r w' R)
  clear hL hv hi0 S
  obtain ⟨q, hq⟩ : ∃ q, q = w.heap.size := ⟨_, rfl⟩
  have HQ := hide (show w.heap.size ≤ q by omega)
  clear hq
  go_enter Try.func63, Try.ntmps63
  go_wp2_with fail
  refine (unhide CN _).mono ?_
  rintro e w1 ⟨M, rfl, hM1, hM2, rfl⟩
  have hMI : (M : Int) - 1 = ((M - 1 : Nat) : Int) := by omega
  go_wp2
  go_loopw [9, 10] (fun iv _ wr => ∃ (t r : Nat) (h : Nat → Nat), t ≤ 3 ∧ iv = .int .i64 ((i0 - 1 + t : Nat) : Int) ∧ Hid (Wm.Shuf a b f h) ∧ Hid (Sl w wr base g n c h) ∧ Hid (Rn wr w.heap.size r)) (fun iv _ _ => i0 + 2 - (intOf iv).toNat)
  case atStart => exact ⟨0, L, f, by omega, by rw [Nat.add_zero], hide (Wm.Shuf.refl a b f), HS, HR⟩
  case round =>
    clear HS HR
    obtain ⟨t, r, h, ht, rfl, HF, HS, HR⟩ := hrel
    obtain ⟨x, hx⟩ : ∃ x, x = i0 - 1 + t := ⟨_, rfl⟩
    rw [← hx]
    by_cases ht3 : t < 3
    · have hxn : x < n := by omega
      have hxb : a ≤ x ∧ x < b := by omega
      have hxI : (x : Int) ≤ (i0 : Int) + 1 := by omega
      have hx1 : x + 1 = i0 - 1 + (t + 1) := by omega
      have HX1 := hide hx1
      clear hx hx1
      go_wp2_with fail
      refine (unhide CX r _ (unhide HR)).mono ?_
      rintro e w2 ⟨r', rfl, R2, O2⟩
      have HR2 := hide R2
      have HS2 := hide ((unhide HS).other O2 (Nat.le_refl _) hgq)
      have lr := R2.lt
      obtain ⟨O, hO⟩ : ∃ O : Nat, O = r' &&& (M - 1) := ⟨_, rfl⟩
      have lO : O ≤ M - 1 := by rw [hO]; exact Nat.and_le_right
      have eAnd : bits .and .u64 (r' : Int) ((M : Int) - 1) = (O : Int) := by
        rw [hMI, bits_and_u64_nat _ _ lr (by omega), hO]
      have eAnd2 : bits .and .u64 (r' : Int) ((M - 1 : Nat) : Int) = (O : Int) := by
        rw [bits_and_u64_nat _ _ lr (by omega), hO]
      have hOn : O ≤ 128 := by omega
      clear hO R2 O2 HS HR lr
      have hLb := unhide HB
      by_cases hLO : L ≤ O
      · obtain ⟨o, ho⟩ : ∃ o, o = O - L := ⟨_, rfl⟩
        have hoI : (O : Int) - (L : Int) = (o : Int) := by omega
        have hol : o < L := by omega
        clear ho
        obtain ⟨p, hp⟩ : ∃ p, p = a + o := ⟨_, rfl⟩
        have hpI : (a : Int) + (o : Int) = (p : Int) := by omega
        have hpn : p < n := by omega
        have hpw : IntKind.i64.wrap (p : Int) = (p : Int) := IntWalk.i64_in _ (by omega)
        have hpb : a ≤ p ∧ p < b := by omega
        have HFW := hide ((unhide HF).step (i := x) (j := p) hxb hpb)
        clear hp
        by_cases hxp : p = x
        · subst hxp
          have c1 := (unhide HS2).cell (i := p) hpn
          have f1 := (unhide HS2).fro p
          obtain ⟨u, hu⟩ : ∃ u, u = h p := ⟨_, rfl⟩
          have HSW := hide (fun m => ((unhide HS2).drewN m).swap_self (i := p) hpn hu.symm)
          have HRW := hide (fun m => (((unhide HR2).drewN m).set hgq p (.int .u16 (u : Int))).set hgq p (.int .u16 (u : Int)))
          rw [← hu] at c1
          clear hu
          go_wp2
          go_region_law (fail)
          all_goals
            go_wp2
            go_roundw
            case rel => exact ⟨t + 1, r', _, by omega, by rw [← unhide HX1]; go_num, HFW, hide (unhide HSW _), hide (unhide HRW _)⟩
            case measure => simp [intOf]; omega
        · have c1 := (unhide HS2).cell (i := x) hxn
          have f1 := (unhide HS2).fro x
          have c2 := (unhide HS2).cell (i := p) hpn
          have f2 := (unhide HS2).fro p
          obtain ⟨u, hu⟩ : ∃ u, u = h x := ⟨_, rfl⟩
          obtain ⟨v, hv⟩ : ∃ v, v = h p := ⟨_, rfl⟩
          have HSW := hide (fun m => ((unhide HS2).drewN m).swap (i := x) (j := p) hxn hpn hu.symm hv.symm)
          have HRW := hide (fun m => (((unhide HR2).drewN m).set hgq x (.int .u16 (v : Int))).set hgq p (.int .u16 (u : Int)))
          rw [← hu] at c1
          rw [← hv] at c2
          clear hu hv
          go_wp2
          go_region_law (fail)
          all_goals
            go_wp2
            go_roundw
            case rel => exact ⟨t + 1, r', _, by omega, by rw [← unhide HX1]; go_num, HFW, hide (unhide HSW _), hide (unhide HRW _)⟩
            case measure => simp [intOf]; omega
      · obtain ⟨p, hp⟩ : ∃ p, p = a + O := ⟨_, rfl⟩
        have hpI : (a : Int) + (O : Int) = (p : Int) := by omega
        have hpn : p < n := by omega
        have hpw : IntKind.i64.wrap (p : Int) = (p : Int) := IntWalk.i64_in _ (by omega)
        have hpb : a ≤ p ∧ p < b := by omega
        have HFW := hide ((unhide HF).step (i := x) (j := p) hxb hpb)
        clear hp
        by_cases hxp : p = x
        · subst hxp
          have c1 := (unhide HS2).cell (i := p) hpn
          have f1 := (unhide HS2).fro p
          obtain ⟨u, hu⟩ : ∃ u, u = h p := ⟨_, rfl⟩
          have HSW := hide (fun m => ((unhide HS2).drewN m).swap_self (i := p) hpn hu.symm)
          have HRW := hide (fun m => (((unhide HR2).drewN m).set hgq p (.int .u16 (u : Int))).set hgq p (.int .u16 (u : Int)))
          rw [← hu] at c1
          clear hu
          go_wp2
          go_region_law (fail)
          all_goals
            go_wp2
            go_roundw
            case rel => exact ⟨t + 1, r', _, by omega, by rw [← unhide HX1]; go_num, HFW, hide (unhide HSW _), hide (unhide HRW _)⟩
            case measure => simp [intOf]; omega
        · have c1 := (unhide HS2).cell (i := x) hxn
          have f1 := (unhide HS2).fro x
          have c2 := (unhide HS2).cell (i := p) hpn
          have f2 := (unhide HS2).fro p
          obtain ⟨u, hu⟩ : ∃ u, u = h x := ⟨_, rfl⟩
          obtain ⟨v, hv⟩ : ∃ v, v = h p := ⟨_, rfl⟩
          have HSW := hide (fun m => ((unhide HS2).drewN m).swap (i := x) (j := p) hxn hpn hu.symm hv.symm)
          have HRW := hide (fun m => (((unhide HR2).drewN m).set hgq x (.int .u16 (v : Int))).set hgq p (.int .u16 (u : Int)))
          rw [← hu] at c1
          rw [← hv] at c2
          clear hu hv
          go_wp2
          go_region_law (fail)
          all_goals
            go_wp2
            go_roundw
            case rel => exact ⟨t + 1, r', _, by omega, by rw [← unhide HX1]; go_num, HFW, hide (unhide HSW _), hide (unhide HRW _)⟩
            case measure => simp [intOf]; omega
    · have hxI : ¬ (x : Int) ≤ (i0 : Int) + 1 := by omega
      go_wp2
      go_end0
      exact ⟨rfl, h, unhide HF, trivial, unhide HS⟩
end Go.Proofs.Ytkebldjepdhioaa

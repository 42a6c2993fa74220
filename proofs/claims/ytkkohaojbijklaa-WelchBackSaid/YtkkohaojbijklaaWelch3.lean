/-
  What welch.Mend says near a code row; the laws' own trial.
-/
import Derived.Test.YtkkohaojbijklaaWelch2
import Derived.Test.YtkkohaojbijklaaReed6
import Derived.Test.YtkkohaojbijklaaMake
set_option linter.unusedVariables false
set_option linter.unusedSimpArgs false
namespace Go.Proofs.Ytkkohaojbijklaa
open Go.RowKit Go.BigFrame

theorem wmend_back {w w' : World} {n : Nat} {b d : List Nat} {e : Ending} (h : WOut w w' n b (d.length : Int) e) (hd : Wm.B256 d) (hb : Wm.B256 b) (h1 : 1 ≤ d.length) (hk : d.length ≤ n) (hn : n ≤ 12) (ho : Wm.off (Wm.putL d n) b n ≤ (n - d.length) / 2) :
    ∃ v, Made w' w.heap.size 5 1 v n (nats .u8 (Wm.putL d n)) ∧ e = .returned (.tuple #[v, .int .i64 (Wm.off (Wm.putL d n) b n : Nat), .int .i64 0]) := by
  have he : wErr n (d.length : Int) = 0 := by
    unfold wErr
    rw [if_neg (by omega), if_neg (by omega)]
  rcases h with ⟨h, -⟩ | ⟨-, K, hK, k1, k2, -, h⟩
  · exact absurd he h
  · obtain rfl : K = d.length := by omega
    rcases h with ⟨s, v, hs, hon, hoff, M, rfl⟩ | ⟨hno, -⟩
    · have hlen : (Wm.pk (fun i => s.testBit i) n).length = d.length := by rw [Wm.pk_length, Wm.cntR_ones]; exact hon
      have hcode := Wm.rowS_code hb (by omega) hlen hk
      have hl2 : ((Wm.rowS b s n).take d.length).length = d.length := by rw [List.length_take, Wm.rowS_length]; omega
      have hd2 : Wm.B256 ((Wm.rowS b s n).take d.length) := Wm.B256.of fun x hx => (Wm.rowS_b hb s (by omega)).mem x (List.mem_of_mem_take hx)
      have hone := Wm.welch_one hd hd2 (by omega) hk (by omega) ho (by rw [← hcode]; exact hoff) (by omega)
      rw [← hone] at hcode
      rw [hcode] at M ⊢
      exact ⟨v, M, rfl⟩
    · obtain ⟨s, hs, hon, hrow⟩ := Wm.welch_found hd hb (by omega) hk ho (by omega)
      exact absurd (by rw [hrow]; exact ho) (hno s hs hon)

theorem wput57 : Wm.putL [5, 7] 4 = [5, 7, 1, 3] ∧ Wm.off [5, 7, 1, 3] [5, 7, 8, 3] 4 = 1 := by decide +kernel

set_option maxRecDepth 100000 in
set_option maxHeartbeats 1000000 in
theorem welches_any (w : World) : Calls Try.prog 20 #[] w fun e w' => e = .returned (.bool true) ∧ Ext w w' := by
  have CP := hide (fun (W : World) (b : Nat) (R : Row W (some ⟨b, 0, none⟩) 2 1 (nats .u8 [5, 7])) => Put_ok (some ⟨b, 0, none⟩) 2 2 4 [5, 7] W R (Wm.B256.of (by decide)) (by omega) (by omega) (by omega))
  rw [wput57.1] at CP
  have hR := hide (fun w : World => row_new w #[.int .u8 5, .int .u8 7] 5 2 1 rfl)
  have CM := hide (fun (A : Option Addr) (c : Nat) (W : World) (R : Row W A 4 1 (nats .u8 [5, 7, 8, 3])) => (wMend_any A 4 c [5, 7, 8, 3] 2 W R (Wm.B256.of (by decide))).mono fun e W' h => (show (∃ v, Made W' W.heap.size 5 1 v 4 (nats .u8 [5, 7, 1, 3]) ∧ e = .returned (.tuple #[v, .int .i64 1, .int .i64 0])) ∧ Ext W W' from by
    have h2 := wmend_back (d := [5, 7]) h.1 (Wm.B256.of (by decide)) (Wm.B256.of (by decide)) (by simp) (by simp) (by omega) (by rw [wput57.1, wput57.2]; decide)
    rw [wput57.1, wput57.2] at h2
    exact ⟨h2, h.2⟩))
  have hxor : bits .xor .u8 1 9 = 8 := by decide
  go_enter Try.func20, Try.ntmps20
  go_wp2_with fail
  refine (unhide CP _ _ (unhide hR _)).mono ?_
  rintro e w2 ⟨⟨v, rfl, M⟩, E2⟩
  have E := And.intro (((Ext.refl w).alloc (.cells #[.int .u8 5, .int .u8 7] 5)).trans E2) trivial
  rcases M.2 with ⟨-, h0⟩ | ⟨g, c, cur, rfl, hg, -⟩
  · exact absurd h0 (by omega)
  have c2 := M.nat (k := 2) (by omega)
  have f2 := M.frozen 2
  have hM2 := M.set (j := 2) (by omega) (.int .u8 8)
  have hgw : w.heap.size ≤ g := by simp at hg; omega
  have hM3 : Hid (Made (w2.setCell ⟨g, 2, none⟩ (.int .u8 8)) 0 5 1 (.slice (some ⟨g, 0, none⟩) 4 c) 4 (nats .u8 [5, 7, 8, 3])) := hide (hM2.mono (Nat.zero_le _))
  simp at c2
  clear M hM2 CP hR E2 hg
  have E3 := And.intro (E.1.setCell (p := ⟨g, 2, none⟩) hgw (.int .u8 8)) trivial
  clear E
  go_wp2_with fail
  have ho := (unhide hM3).open_
  obtain ⟨A', c', e', R', -⟩ := ho
  injection e' with e1 e2 e3
  subst e1; subst e3
  refine (unhide CM _ _ _ R').mono ?_
  rintro e w3 ⟨⟨v, M, rfl⟩, EN⟩
  have E4 := And.intro (E3.1.trans EN) trivial
  have hq := M.open_
  obtain ⟨A, c', rfl, R, -⟩ := hq
  obtain ⟨b, o, rfl, hb, hc⟩ := R.nat (k := 2) (by omega)
  simp at hc
  clear M R R' EN E3 hM3 CM e2
  go_wp2
  go_ret
  exact ⟨rfl, (by repeat (first | exact E4.1 | refine Ext.alloc ?_ _ | refine Ext.drew ?_ | refine Ext.drewN ?_ _ | (refine Ext.trans ?_ (plus_ext _ _)) | (refine Ext.setCell ?_ (by have := Ext.size E4.1; simp; omega) _)))⟩
end Go.Proofs.Ytkkohaojbijklaa

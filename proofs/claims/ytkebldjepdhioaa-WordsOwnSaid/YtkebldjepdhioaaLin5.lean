/-
  Contains and Equal at uint16; the laws' own trial of linear codes.
-/
import Derived.Test.YtkebldjepdhioaaLin4
import Derived.Test.YtkebldjepdhioaaArith1
import Derived.Test.YtkebldjepdhioaaHead
set_option linter.unusedVariables false
set_option linter.unusedSimpArgs false
namespace Wm
theorem wl_35 : wl [3, 5] = [0, 3, 5, 6] := lt_same (wl_sorted _) (by decide) fun x => by rw [wl_mem, show ws [3, 5] = [0, 3, 5, 6] by decide]
theorem bs_35 : bs [3, 5] = [3, 5] := by decide +kernel
theorem bl_35 : bl [3, 5] = [5, 3] := by
  have h : (bs [3, 5]).mergeSort (fun a b => decide (a ≤ b)) = [3, 5] := by
    have hp := srt_p (bs [3, 5])
    rw [bs_35] at hp ⊢
    have hs := srt_s [3, 5]
    exact hp.eq_of_pairwise (fun a b _ _ h1 h2 => by omega) hs (by decide)
  unfold bl
  rw [h]; rfl
theorem chk_35 : chkL 3 [3, 5] = 0 := by decide +kernel
end Wm
namespace Go.Proofs.Ytkebldjepdhioaa
open Go.RowKit Go.BigFrame Go.Sort

set_option maxRecDepth 100000 in
set_option maxHeartbeats 1000000 in
theorem equal_u16 (A B : Option Addr) (n m c d : Nat) (xs ys : List Nat) (w : World) (R : Row w A n 1 (nats .u16 xs)) (S : Row w B m 1 (nats .u16 ys)) (hn : (n : Int) ≤ 9223372036854775807) (hm : (m : Int) ≤ 9223372036854775807) :
    Calls Try.prog 20 #[.slice A n c, .slice B m d] w fun e w' => e = .returned (.bool (decide (xs = ys))) ∧ ∃ k, w' = w.drewN k := by
  have hx := R.numN
  have hy := S.numN
  by_cases hnm : n = m
  · subst hnm
    have HX := hide hx
    have HY := hide hy
    have HR := hide R
    have HS := hide S
    clear hx hy R S
    go_enter Try.func20, Try.ntmps20
    go_wp2
    go_loopw [13] (fun i wr => ∃ k : Nat, k ≤ n ∧ i = .int .i64 k ∧ Hid (∀ j, j < k → xs.getD j 0 = ys.getD j 0) ∧ ∃ q, wr = w.drewN q) (fun i _ => n - (intOf i).toNat)
    case atStart => exact ⟨0, by omega, rfl, hide (fun j h => absurd h (by omega)), 0, rfl⟩
    case round =>
      obtain ⟨k, hk, rfl, hz, q, rfl⟩ := hrel
      by_cases hlt : k < n
      · obtain ⟨b, o, rfl, hb, c1⟩ := (unhide HR).nat hlt
        obtain ⟨b', o', rfl, hb', c2⟩ := (unhide HS).nat hlt
        have hk0 : (0 : Int) ≤ (k : Int) := by omega
        have hk1 : (k : Int) < (n : Int) := by omega
        by_cases he : xs.getD k 0 = ys.getD k 0
        · have hz2 := hide (fun j (hj : j < k + 1) => (show xs.getD j 0 = ys.getD j 0 from by
            by_cases h : j < k
            · exact unhide hz j h
            · obtain rfl : j = k := by omega
              exact he))
          rw [he] at c1
          clear he
          generalize ys.getD k 0 = y at *
          go_wp2
          go_quiet (fail)
          go_wp2
          go_roundw
          case rel => exact ⟨k + 1, by omega, by go_num, hz2, _, rfl⟩
          case measure => simp [intOf]; omega
        · have hne : (((xs.getD k 0 : Nat) : Int) != ((ys.getD k 0 : Nat) : Int)) = true := by rw [bne_iff_ne]; exact fun h => he (by exact_mod_cast h)
          have hfin := hide (show decide (xs = ys) = false from decide_eq_false (fun h => he (by rw [h])))
          clear he
          generalize xs.getD k 0 = x at *
          generalize ys.getD k 0 = y at *
          go_wp2
          go_quiet (fail)
          go_wp2
          go_ret
          exact ⟨ret_boolv (unhide hfin).symm, _, World.drewN_drewN _ _ _⟩
      · obtain rfl : k = n := by omega
        have hfin := hide (show decide (xs = ys) = true from decide_eq_true (by
          have h1 := unhide HX
          have h2 := unhide HY
          apply List.ext_getElem (by omega)
          intro j j1 j2
          have := unhide hz j (by omega)
          rwa [List.getD_eq_getElem?_getD, List.getElem?_eq_getElem j1, List.getD_eq_getElem?_getD, List.getElem?_eq_getElem j2] at this))
        go_wp2
        go_ret
        exact ⟨ret_boolv (unhide hfin).symm, _, rfl⟩
  · have hv : decide (xs = ys) = false := decide_eq_false (fun h => hnm (by rw [← hx, ← hy, h]))
    rw [hv]
    have hb1 : ((n : Int) != (m : Int)) = true := by rw [bne_iff_ne]; omega
    have hb2 : (n != m) = true := by rw [bne_iff_ne]; exact hnm
    clear hv hx hy hnm R S
    go_enter Try.func20, Try.ntmps20
    go_wp2
    go_ret
    exact ⟨rfl, 0, rfl⟩

/-- A row of small numbers just made. -/
theorem row16 (w : World) (xs : List Nat) (n : Nat) (hn : xs.length = n) (cs : Array Value) (hcs : cs.toList = nats .u16 xs) : Row (w.alloc (.cells cs 26)) (some ⟨w.heap.size, 0, none⟩) n 1 (nats .u16 xs) := by
  have hs : cs.size = n * 1 := by
    have := congrArg List.length hcs
    rw [nats_length] at this
    simpa [hn] using this
  have := row_new w cs 26 n 1 hs
  rwa [hcs] at this

set_option maxRecDepth 100000 in
set_option maxHeartbeats 2000000 in
theorem words_any (w : World) : Calls Try.prog 4 #[] w fun e w' => e = .returned (.bool true) ∧ Ext w w' := by
  have CW := hide (fun (W : World) (b : Nat) (R : Row W (some ⟨b, 0, none⟩) 2 1 (nats .u16 [3, 5])) => (Words_any 3 (some ⟨b, 0, none⟩) 2 2 [3, 5] W R (by omega) (by decide)).mono fun e w' h => (show (∃ v, e = .returned (.tuple #[v, .int .i64 0]) ∧ Made w' W.heap.size 26 1 v 4 (nats .u16 [0, 3, 5, 6])) ∧ Ext W w' from by
    obtain ⟨h | ⟨-, v, rfl, M⟩, E⟩ := h
    · exact absurd Wm.chk_35 h.1
    · rw [Wm.wl_35] at M
      exact ⟨⟨v, rfl, M⟩, E⟩))
  have CB := hide (fun (W : World) (b : Nat) (R : Row W (some ⟨b, 0, none⟩) 2 1 (nats .u16 [3, 5])) => (Base_any 3 (some ⟨b, 0, none⟩) 2 2 [3, 5] W R (by omega) (by decide)).mono fun e w' h => (show (∃ v, e = .returned (.tuple #[v, .int .i64 0]) ∧ Made w' W.heap.size 26 1 v 2 (nats .u16 [5, 3])) ∧ Ext W w' from by
    obtain ⟨h | ⟨-, v, rfl, M⟩, E⟩ := h
    · exact absurd Wm.chk_35 h.1
    · rw [Wm.bl_35] at M
      exact ⟨⟨v, rfl, M⟩, E⟩))
  go_enter Try.func4, Try.ntmps4
  go_wp2_with fail
  refine (unhide CW _ _ (row16 w [3, 5] 2 rfl _ rfl)).mono ?_
  rintro e w1 ⟨⟨v, rfl, M1⟩, E1⟩
  have HE1 := hide (show Ext w w1 from Ext.trans ((Ext.refl w).alloc _) E1)
  obtain ⟨A1, c1, rfl, R1, -, hc1, -⟩ := M1.open_
  clear M1 E1 CW
  go_wp2_with fail
  refine (unhide CB _ _ (row16 w1 [3, 5] 2 rfl _ rfl)).mono ?_
  rintro e w2 ⟨⟨v, rfl, M2⟩, E2⟩
  have E12 : Ext w1 w2 := Ext.trans ((Ext.refl w1).alloc _) E2
  have HE2 := hide ((unhide HE1).trans E12)
  obtain ⟨A2, c2, rfl, R2, -, hc2, -⟩ := M2.open_
  have HR1 := hide (R1.keep E12)
  have HR2 := hide R2
  have CE1 := hide (fun (W : World) (E : Ext w2 W) (b : Nat) (S : Row W (some ⟨b, 0, none⟩) 4 1 (nats .u16 [0, 3, 5, 6])) => equal_u16 A1 (some ⟨b, 0, none⟩) 4 4 c1 4 [0, 3, 5, 6] [0, 3, 5, 6] W ((unhide HR1).keep E) S (by omega) (by omega))
  have CE2 := hide (fun (W : World) (E : Ext w2 W) (b : Nat) (S : Row W (some ⟨b, 0, none⟩) 2 1 (nats .u16 [5, 3])) => equal_u16 A2 (some ⟨b, 0, none⟩) 2 2 c2 2 [5, 3] [5, 3] W ((unhide HR2).keep E) S (by omega) (by omega))
  clear M2 E2 CB R1 R2 E12 HE1
  go_wp2_with fail
  refine (unhide CE1 _ (by repeat (first | exact Ext.refl _ | refine Ext.alloc ?_ _ | refine Ext.drew ?_ | refine Ext.drewN ?_ _ | (refine Ext.trans ?_ (plus_ext _ _)) | (refine Ext.setCell ?_ (by have := Ext.size Ext.refl _; simp; omega) _))) _ (row16 _ [0, 3, 5, 6] 4 rfl _ rfl)).mono ?_
  rintro e w3 ⟨rfl, q3, rfl⟩
  go_wp2_with fail
  refine (unhide CE2 _ (by repeat (first | exact Ext.refl _ | refine Ext.alloc ?_ _ | refine Ext.drew ?_ | refine Ext.drewN ?_ _ | (refine Ext.trans ?_ (plus_ext _ _)) | (refine Ext.setCell ?_ (by have := Ext.size Ext.refl _; simp; omega) _))) (w2.heap.size + 1) (by
    have := row16 ((w2.alloc (.cells #[.int .u16 0, .int .u16 3, .int .u16 5, .int .u16 6] 26)).drewN q3) [5, 3] 2 rfl #[.int .u16 5, .int .u16 3] rfl
    rw [show ((w2.alloc (.cells #[.int .u16 0, .int .u16 3, .int .u16 5, .int .u16 6] 26)).drewN q3).heap.size = w2.heap.size + 1 by simp] at this
    exact this)).mono ?_
  rintro e w4 ⟨rfl, q4, rfl⟩
  go_wp2
  go_ret
  exact ⟨ret_boolv (by simp), (by repeat (first | exact unhide HE2 | refine Ext.alloc ?_ _ | refine Ext.drew ?_ | refine Ext.drewN ?_ _ | (refine Ext.trans ?_ (plus_ext _ _)) | (refine Ext.setCell ?_ (by have := Ext.size unhide HE2; simp; omega) _)))⟩
end Go.Proofs.Ytkebldjepdhioaa

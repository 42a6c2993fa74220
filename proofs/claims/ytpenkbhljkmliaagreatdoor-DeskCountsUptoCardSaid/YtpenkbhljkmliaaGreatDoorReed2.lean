/-
  The contract of reed.Row.
-/
import Derived.Test.YtpenkbhljkmliaaGreatDoorReed1
import Derived.Test.YtpenkbhljkmliaaGreatDoorField1
import Derived.Test.YtpenkbhljkmliaaGreatDoorTri
import Derived.Deep.RegionHeld3
import Derived.Deep.RegionLaw
import Derived.StillTailTactics
set_option linter.unusedVariables false
set_option linter.unusedSimpArgs false
namespace Wm
/-- The row, its first x bytes made, and i terms of the next. -/
def mid (l bs : List Nat) (n x i : Nat) : List Nat := (List.range n).map fun y => if y < x then rby (fun i => l.getD i 0) (fun i => bs.getD i 0) l.length y else if y = x then rv (fun i => l.getD i 0) (fun i => bs.getD i 0) l.length y i else 0
theorem mid_length (l bs : List Nat) (n x i : Nat) : (mid l bs n x i).length = n := by simp [mid]
theorem mid_zero (l bs : List Nat) (n : Nat) : mid l bs n 0 0 = List.replicate n 0 := by
  apply List.ext_getElem (by simp [mid])
  intro y h1 h2
  simp [mid, rv]
theorem mid_get (l bs : List Nat) {n x : Nat} (h : x < n) (i : Nat) : (mid l bs n x i).getD x 0 = rv (fun i => l.getD i 0) (fun i => bs.getD i 0) l.length x i := by
  unfold mid
  rw [getD_map_ 0 (by simpa using h), getD_range h, if_neg (by omega), if_pos rfl]
theorem mid_set (l bs : List Nat) {n x : Nat} (h : x < n) (i j : Nat) : (mid l bs n x i).set x (rv (fun i => l.getD i 0) (fun i => bs.getD i 0) l.length x j) = mid l bs n x j := by
  apply List.ext_getElem (by simp [mid])
  intro y h1 h2
  rw [List.getElem_set]
  simp only [mid, List.getElem_map, List.getElem_range]
  by_cases e : x = y
  · subst e; rw [if_pos rfl, if_neg (by omega), if_pos rfl]
  · rw [if_neg e, if_neg (show ¬ y = x from fun h => e h.symm), if_neg (show ¬ y = x from fun h => e h.symm)]
theorem mid_step (l bs : List Nat) (n x : Nat) : mid l bs n x l.length = mid l bs n (x + 1) 0 := by
  apply List.ext_getElem (by simp [mid])
  intro y h1 h2
  simp only [mid, List.getElem_map, List.getElem_range]
  by_cases e : y < x
  · rw [if_pos e, if_pos (by omega)]
  · rw [if_neg e]
    by_cases e2 : y = x
    · rw [if_pos e2, if_pos (by omega)]; rfl
    · rw [if_neg e2, if_neg (by omega)]
      split <;> rfl
theorem mid_done (l bs : List Nat) (n : Nat) : mid l bs n n 0 = rowL l bs n := by
  apply List.ext_getElem (by simp [mid, rowL])
  intro y h1 h2
  have hy : y < n := by simpa [mid] using h1
  simp only [mid, rowL, List.getElem_map, List.getElem_range]
  rw [if_pos hy]
theorem small_get {l : List Nat} {m : Nat} (hm : 0 < m) (h : ∀ x ∈ l, x < m) (i : Nat) : l.getD i 0 < m := by
  rw [List.getD_eq_getElem?_getD]
  cases e : l[i]? with
  | none => exact hm
  | some x => exact h x (List.mem_of_getElem? e)
end Wm
namespace Go.Proofs.YtpenkbhljkmliaaGreatDoor
open Go.RowKit Go.BigFrame

theorem num_eqR {K : IntKind} {a b : Int} (h : a = b) : Value.int K a = Value.int K b := by rw [h]
theorem byteR : EInfo Tryz.prog 106 5 (.int .u8 0) 1 1 := EInfo.mk_ Tryz.underlying106 (by kernel_rfl) rfl (by omega)
theorem xor_zero {a b : Nat} (h : a ^^^ b = 0) : a = b := by
  have := congrArg (· ^^^ b) h
  simpa [Nat.xor_assoc] using this
theorem placeR {p q : Nat} (hp : p < 32) (hq : q < 32) : bits .xor .i64 (p : Int) (q : Int) = ((p ^^^ q : Nat) : Int) ∧ IntKind.u8.wrap ((p ^^^ q : Nat) : Int) = ((p ^^^ q : Nat) : Int) ∧ p ^^^ q < 256 := by
  have := Nat.xor_lt_two_pow (n := 5) hp hq
  exact ⟨i64_xor_nat p q (by omega) (by omega), IntWalk.u8_in _ (by omega), by omega⟩

set_option maxRecDepth 100000 in
set_option maxHeartbeats 4000000 in
theorem Row_ok (A B : Option Addr) (k c d n : Nat) (l bs : List Nat) (w : World) (R : Row w A k 1 (nats .i64 l)) (S : Row w B k 1 (nats .u8 bs)) (hk : k ≤ 20) (hn : n ≤ 20) (hl : ∀ x ∈ l, x < 32) (hnd : l.Nodup) (hb : Wm.B256 bs) :
    Calls Tryz.prog 121 #[.slice A k c, .slice B k d, .int .i64 n] w fun e w' => (∃ v, e = .returned v ∧ Made w' w.heap.size 5 1 v n (nats .u8 (Wm.rowL l bs n))) ∧ Ext w w' := by
  have hlk := R.numN
  have hmk : ∀ w : World, (Instr.makeSlice 106 (.int .i64 (n : Int)) (.int .i64 (n : Int))).run Tryz.prog w = .ok (.slice (some ⟨w.heap.size, 0, none⟩) n n) (w.alloc (.cells (madeCells #[.int .u8 0] n) 5)) := fun w => by
    have := make_run byteR n n (Nat.le_refl _) (by omega) (by omega) w
    rw [Nat.mul_one] at this
    exact this
  have hl2 := Wm.small_get (by omega) hl
  have hpb : ∀ i, l.getD i 0 < 256 := fun i => by have := hl2 i; omega
  have M0 : Made (w.alloc (.cells (madeCells #[.int .u8 0] n) 5)) w.heap.size 5 1 (.slice (some ⟨w.heap.size, 0, none⟩) n n) n (nats .u8 (Wm.mid l bs n 0 0)) := by
    rw [Wm.mid_zero, ← nats_replicate]
    exact Made.make (.int .u8 0) n (Nat.le_refl _) (by omega)
  have E0 : Ext w (w.alloc (.cells (madeCells #[.int .u8 0] n) 5)) := (Ext.refl w).alloc _
  have HM := hide M0
  have HR := hide R
  have HS := hide S
  have HND := hide hnd
  have HL2 := hide hl2
  have HPB := hide hpb
  have HB := hide hb
  have HLK := hide hlk
  clear R S hl hnd hl2 hpb hb M0 hlk
  obtain ⟨g, hg⟩ : ∃ g, g = w.heap.size := ⟨_, rfl⟩
  have hgw : w.heap.size ≤ g := by omega
  go_enter Tryz.func121, Tryz.ntmps121
  go_wp2
  rw [← hg] at HM ⊢
  generalize (w.alloc (.cells (madeCells #[.int .u8 0] n) 5)) = W0 at *
  rw [hg] at HM
  clear hmk
  have HM1 : Hid (Made W0 w.heap.size 5 1 (.slice (some ⟨g, 0, none⟩) n n) n (nats .u8 (Wm.mid l bs n 0 0))) := by rw [hg]; exact HM
  clear HM hg
  go_loopw [20] (fun i wr => ∃ x : Nat, x ≤ n ∧ i = .int .i64 x ∧ Hid (Made wr w.heap.size 5 1 (.slice (some ⟨g, 0, none⟩) n n) n (nats .u8 (Wm.mid l bs n x 0))) ∧ Ext w wr) (fun i _ => n - (intOf i).toNat)
  case atStart => exact ⟨0, Nat.zero_le _, rfl, HM1, E0⟩
  case round =>
    clear HM1 E0
    obtain ⟨x, hx, rfl, HM, hext⟩ := hrel
    by_cases hlt : x < n
    · go_wp2
      go_loopw [25] (fun i wz => ∃ t : Nat, t ≤ k ∧ i = .int .i64 t ∧ Hid (Made wz w.heap.size 5 1 (.slice (some ⟨g, 0, none⟩) n n) n (nats .u8 (Wm.mid l bs n x t))) ∧ Ext w wz) (fun i _ => k - (intOf i).toNat)
      case atStart => exact ⟨0, Nat.zero_le _, rfl, HM, hext⟩
      case round =>
        clear HM hext
        obtain ⟨t, ht, rfl, HM, hext⟩ := hrel
        by_cases htk : t < k
        · obtain ⟨b, o, rfl, hbl, hc⟩ := ((unhide HR).keep hext).nat htk
          obtain ⟨b2, o2, rfl, hbl2, hc2⟩ := ((unhide HS).keep hext).nat htk
          have hHR := hide ((unhide HR).keep hext)
          obtain ⟨pt, hpt⟩ : ∃ p, p = l.getD t 0 := ⟨_, rfl⟩
          obtain ⟨bt, hbt⟩ : ∃ p, p = bs.getD t 0 := ⟨_, rfl⟩
          have hp32 : pt < 32 := by rw [hpt]; exact unhide HL2 t
          have hbt8 : bt < 256 := by rw [hbt]; exact unhide HB t
          have HPT := hide hpt
          have HBT := hide hbt
          rw [← hpt] at hc
          rw [← hbt] at hc2
          clear hpt hbt
          go_wp2
          go_loopw [11, 36] (fun v j wy => ∃ q : Nat, q ≤ k ∧ j = .int .i64 q ∧ v = .int .u8 ((Wm.tr (fun i => l.getD i 0) bt x t q : Nat) : Int) ∧ wy = wr) (fun _ j _ => k - (intOf j).toNat)
          case atStart => exact ⟨0, Nat.zero_le _, rfl, rfl, rfl⟩
          case round =>
            obtain ⟨q, hq, rfl, rfl, rfl⟩ := hrel
            by_cases hqk : q < k
            · by_cases hqt : q = t
              · subst hqt
                have hs : Wm.tr (fun i => l.getD i 0) bt x q (q + 1) = Wm.tr (fun i => l.getD i 0) bt x q q := by simp [Wm.tr]
                have HSS := hide hs
                clear hs
                generalize Wm.tr (fun i => l.getD i 0) bt x q q = y at *
                go_wp2
                go_roundw
                case rel => exact ⟨q + 1, by omega, num_eqR (by omega), by rw [unhide HSS], by first | rfl | trivial⟩
                case measure => simp [intOf]; omega
              · obtain ⟨b3, o3, hbo, hbl3, hc3⟩ := (unhide hHR).nat hqk
                simp only [Option.some.injEq, Addr.mk.injEq, and_true] at hbo
                obtain ⟨rfl, rfl⟩ := hbo
                obtain ⟨pq, hpq⟩ : ∃ p, p = l.getD q 0 := ⟨_, rfl⟩
                rw [← hpq] at hc3
                have hq32 : pq < 32 := by rw [hpq]; exact unhide HL2 q
                have hne : pt ^^^ pq ≠ 0 := fun h => by
                  have e : pt = pq := xor_zero h
                  rw [unhide HPT, hpq] at e
                  exact hqt (Wm.getD_inj (unhide HND) (by have := unhide HLK; omega) (by have := unhide HLK; omega) e).symm
                have hs : Wm.tr (fun i => l.getD i 0) bt x t (q + 1) = Wm.fmul (Wm.tr (fun i => l.getD i 0) bt x t q) (Wm.fmul (x ^^^ pq) (Wm.fpow (pt ^^^ pq) 254)) := by
                  simp only [Wm.tr]
                  rw [if_neg hqt, hpq, unhide HPT]
                have htr : Wm.tr (fun i => l.getD i 0) bt x t q < 256 := Wm.tr_lt (unhide HPB) hbt8 (by omega) q
                have HSS := hide hs
                obtain ⟨x1, x2, x3⟩ := placeR hp32 hq32
                obtain ⟨y1, y2, y3⟩ := placeR (show x < 32 by omega) hq32
                clear hs hpq
                generalize Wm.tr (fun i => l.getD i 0) bt x t q = y at *
                generalize pt ^^^ pq = z at *
                generalize x ^^^ pq = u at *
                have hz := Wm.fpow_lt x3 254
                have CI := hide (fun w : World => Inv_ok z hne x3 w)
                generalize Wm.fpow z 254 = zi at *
                have CM1 := hide (fun w : World => Mul_any u zi y3 hz w)
                have hm1 := Wm.fmul_lt y3 hz
                generalize Wm.fmul u zi = m1 at *
                have CM2 := hide (fun w : World => Mul_any y m1 htr hm1 w)
                have hti : ((q : Int) != (t : Int)) = true := by rw [bne_iff_ne]; omega
                clear hqt hne
                go_wp2_with fail
                refine (unhide CI _).mono ?_
                rintro e wr ⟨rfl, rfl⟩
                go_wp2_with fail
                refine (unhide CM1 _).mono ?_
                rintro e wr ⟨rfl, rfl⟩
                go_wp2_with fail
                refine (unhide CM2 _).mono ?_
                rintro e wr ⟨rfl, rfl⟩
                go_wp2
                go_roundw
                case rel => exact ⟨q + 1, by omega, num_eqR (by omega), by rw [unhide HSS], by first | rfl | trivial⟩
                case measure => simp [intOf]; omega
            · obtain rfl : q = k := by omega
              have hcell := (unhide HM).nat hlt
              rw [Wm.mid_get l bs hlt] at hcell
              have hfr := (unhide HM).frozen x
              have hlen := unhide HLK
              have htr : Wm.tr (fun i => l.getD i 0) bt x t q < 256 := Wm.tr_lt (unhide HPB) hbt8 (by omega) q
              have hrv : Wm.rv (fun i => l.getD i 0) (fun i => bs.getD i 0) l.length x t < 256 := Wm.rv_lt (unhide HPB) (unhide HB) (by omega) t
              have hs : Wm.rv (fun i => l.getD i 0) (fun i => bs.getD i 0) l.length x (t + 1) = Wm.rv (fun i => l.getD i 0) (fun i => bs.getD i 0) l.length x t ^^^ Wm.tr (fun i => l.getD i 0) bt x t q := by
                simp only [Wm.rv]
                rw [unhide HBT, hlen]
              have HM2 : Hid (Made (wr.setCell ⟨g, x, none⟩ (.int .u8 ((Wm.rv (fun i => l.getD i 0) (fun i => bs.getD i 0) l.length x (t + 1) : Nat) : Int))) w.heap.size 5 1 (.slice (some ⟨g, 0, none⟩) n n) n (nats .u8 (Wm.mid l bs n x (t + 1)))) := hide (by
                rw [← Wm.mid_set l bs hlt t (t + 1), ← nats_set]
                exact (unhide HM).set (by omega) _)
              have E2 := hext.setCell (p := ⟨g, x, none⟩) hgw (.int .u8 ((Wm.rv (fun i => l.getD i 0) (fun i => bs.getD i 0) l.length x (t + 1) : Nat) : Int))
              rw [hs] at HM2 E2
              have hx8 := u8_xor_nat _ _ hrv htr
              clear hs hlen HM
              generalize Wm.tr (fun i => l.getD i 0) bt x t q = y at *
              generalize Wm.rv (fun i => l.getD i 0) (fun i => bs.getD i 0) l.length x t = z at *
              go_wp2
              go_roundw
              case rel => exact ⟨t + 1, by omega, num_eqR (by omega), HM2, E2⟩
              case measure => simp [intOf]; omega
        · obtain rfl : t = k := by omega
          have HM2 : Hid (Made wr w.heap.size 5 1 (.slice (some ⟨g, 0, none⟩) n n) n (nats .u8 (Wm.mid l bs n (x + 1) 0))) := hide (by
            rw [← Wm.mid_step, unhide HLK]; exact unhide HM)
          go_wp2
          go_roundw
          case rel => exact ⟨x + 1, by omega, num_eqR (by omega), HM2, hext⟩
          case measure => simp [intOf]; omega
    · obtain rfl : x = n := by omega
      have HF := hide (show Made wr w.heap.size 5 1 (.slice (some ⟨g, 0, none⟩) x x) x (nats .u8 (Wm.rowL l bs x)) by rw [← Wm.mid_done]; exact unhide HM)
      clear HM
      go_wp2
      go_ret
      exact ⟨⟨_, rfl, unhide HF⟩, hext⟩
end Go.Proofs.YtpenkbhljkmliaaGreatDoor

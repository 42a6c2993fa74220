/-
  The contracts of linear.Weights, Far and Dual.
-/
import Derived.Test.YtbejhfafipedmaaLin5
import Derived.Test.YtbejhfafipedmaaLin7
import Derived.Test.YtbejhfafipedmaaPop1
set_option linter.unusedVariables false
set_option linter.unusedSimpArgs false
namespace Wm
/-- How many words have how many ones. -/
def wcnt (L : List Nat) (i : Nat) : Nat := (L.filter fun x => decide (ones x 16 = i)).length
theorem wcnt_take {L : List Nat} {k : Nat} (h : k < L.length) (i : Nat) : wcnt (L.take (k + 1)) i = if i = ones (L.getD k 0) 16 then wcnt (L.take k) i + 1 else wcnt (L.take k) i := by
  unfold wcnt
  rw [List.take_succ_eq_append_getElem h, List.filter_append, List.length_append]
  have e : L.getD k 0 = L[k] := by simp [List.getD_eq_getElem?_getD, h]
  rw [e]
  by_cases c : i = ones L[k] 16
  · rw [if_pos c, List.filter_cons, if_pos (by simpa using c.symm)]; rfl
  · rw [if_neg c, List.filter_cons, if_neg (by simpa using fun h => c h.symm)]; rfl
theorem wcnt_le (L : List Nat) (i : Nat) : wcnt L i ≤ L.length := List.length_filter_le _ _
def wts (N : Nat) (L : List Nat) : List Nat := mkS (N + 1) (wcnt L)
end Wm
namespace Go.Proofs.Ytbejhfafipedmaa
open Go.RowKit Go.BigFrame Go.Sort

theorem i64Q : EInfo Try.prog 39 3 (.int .i64 0) 1 8 := EInfo.mk_ Try.underlying39 (by kernel_rfl) rfl (by omega)
theorem row_oth {g : Nat} {w w' : World} {A : Option Addr} {n sz : Nat} {xs : List Value} (R : Row w A n sz xs) (O : Oth g w w') (hne : ∀ b o, A = some ⟨b, o, none⟩ → b ≠ g) : Row w' A n sz xs :=
  ⟨R.1, fun hn => by
    obtain ⟨b, o, hA, hb, hc⟩ := R.2 hn
    exact ⟨b, o, hA, Nat.lt_of_lt_of_le hb O.size, fun j hj => (World.cell?_of_block (a := ⟨b, o + j, none⟩) (O.block b hb (hne b o hA))).trans (hc j hj)⟩⟩
/-- What Weights returns. -/
def WtPost (n : Int) (l : List Nat) (w w' : World) (e : Ending) : Prop :=
  (Wm.chkL n l ≠ 0 ∧ e = .returned (.tuple #[.slice none 0 0, .int .i64 (Wm.chkL n l)])) ∨
  (Wm.chkL n l = 0 ∧ ∃ v, e = .returned (.tuple #[v, .int .i64 0]) ∧ Made w' w.heap.size 3 1 v (n.toNat + 1) (nats .i64 (Wm.wts n.toNat (Wm.wl l))))
set_option maxRecDepth 100000 in
set_option maxHeartbeats 4000000 in
theorem Weights_any (n : Int) (A : Option Addr) (m c : Nat) (l : List Nat) (w : World) (R : Row w A m 1 (nats .u16 l)) (hm : m ≤ 9223372036854775807) (hl : ∀ x ∈ l, x < 65536) :
    Calls Try.prog 22 #[.int .i64 n, .slice A m c] w fun e w' => WtPost n l w w' e ∧ Ext w w' := by
  have CK := hide (check_any n A m c l w R hm hl)
  by_cases hk : Wm.chkL n l = 0
  · obtain ⟨N, rfl, h1, h12, h6, hlt⟩ := Wm.chk_ok hk
    have hlen := R.numN
    have CW := hide (fun (W : World) (E : Ext w W) => words_ok A m c l W (R.keep E) (by omega) (Wm.lt12 h12 hlt))
    have HK := hide hk
    have hpos := Wm.wl_pos l
    have hL64 : (Wm.wl l).length ≤ 64 := by
      rw [Wm.wl_len]
      have : 2 ^ (Wm.bl l).length ≤ 2 ^ 6 := Nat.pow_le_pow_right (by omega) (Nat.le_trans (Wm.bl_len_le l) h6)
      omega
    have HWB := hide (show ∀ k, k < (Wm.wl l).length → (Wm.wl l).getD k 0 < 2 ^ N from fun k hk => Wm.wl_lt hlt _ (getD_mem _ 0 hk))
    rw [hk] at CK
    clear R hl hlt hk
    have hT : (N : Int).toNat = N := Int.toNat_natCast N
    have HW : Hid (∀ v (w' : World), Made w' w.heap.size 3 1 v (N + 1) (nats .i64 (Wm.wts N (Wm.wl l))) → WtPost (N : Int) l w w' (.returned (.tuple #[v, .int .i64 0]))) := hide (fun v w' M => .inr ⟨unhide HK, v, rfl, by rw [hT]; exact M⟩)
    generalize Wm.wl l = L at *
    have hmk := make_run i64Q (N + 1) (N + 1) (Nat.le_refl _) (by omega) (by omega)
    have hN1 : ((N + 1 : Nat) : Int) = (N : Int) + 1 := by omega
    rw [hN1] at hmk
    clear hT
    go_enter Try.func22, Try.ntmps22
    go_wp2_with fail
    refine (unhide CK).mono ?_
    rintro e w1 ⟨rfl, E1⟩
    have hmk1 := hmk w1
    have HE1 := hide (E1.alloc (.cells (madeCells #[.int .i64 0] (N + 1)) 3))
    have HM1 := hide (show Made (w1.alloc (.cells (madeCells #[.int .i64 0] (N + 1)) 3)) w.heap.size 3 1 (.slice (some ⟨w1.heap.size, 0, none⟩) (N + 1) (N + 1)) (N + 1) (nats .i64 (Wm.mkS (N + 1) (Wm.wcnt (L.take 0)))) by
      have := Made.make (w := w1) (base := w.heap.size) (e := 3) (.int .i64 0) (N + 1) (Ext.size E1) (by omega)
      rw [show (Value.int .i64 0) = Value.int .i64 ((0 : Nat) : Int) from rfl, nats_replicate] at this
      have e : List.replicate (N + 1) 0 = Wm.mkS (N + 1) (Wm.wcnt (L.take 0)) := by
        apply List.ext_getElem (by simp [Wm.mkS])
        intro k h1 h2
        simp [Wm.mkS, Wm.wcnt]
      rw [e] at this
      exact this)
    clear E1 CK hmk
    go_wp2_with fail
    refine (unhide CW _ (unhide HE1)).mono ?_
    rintro e w2 ⟨⟨v, rfl, M⟩, E2⟩
    obtain ⟨A2, c2, rfl, R2, -, hc2, hne2⟩ := M.open_
    have HNE := hide (show ∀ b o, A2 = some ⟨b, o, none⟩ → b ≠ w1.heap.size from fun b o e h => by
      have := (hne2 b o e).1
      simp at this
      omega)
    have HR2 := hide R2
    have HM2 := hide ((unhide HM1).keep E2)
    have HE2 := hide ((unhide HE1).trans E2)
    have hgb : w.heap.size ≤ w1.heap.size := ((unhide HM1).lt w1.heap.size rfl).1
    obtain ⟨g, hg⟩ : ∃ g, g = w1.heap.size := ⟨_, rfl⟩
    rw [← hg] at HM2 HNE hgb ⊢
    clear hg HE1 HM1 M E2 R2 CW hne2
    have hL0 := HWB
    go_wp2
    go_loopw [22] (fun i wr => ∃ k : Nat, k ≤ L.length ∧ i = .int .i64 k ∧ Hid (Made wr w.heap.size 3 1 (.slice (some ⟨g, 0, none⟩) (N + 1) (N + 1)) (N + 1) (nats .i64 (Wm.mkS (N + 1) (Wm.wcnt (L.take k))))) ∧ Hid (Oth g w2 wr)) (fun i _ => L.length - (intOf i).toNat)
    case atStart => exact ⟨0, Nat.zero_le _, rfl, HM2, hide (Oth.refl g w2)⟩
    case round =>
      clear HM2
      obtain ⟨k, hkl, rfl, HM, HO⟩ := hrel
      by_cases hlt : k < L.length
      · obtain ⟨b, o, rfl, hb, hc⟩ := (row_oth (unhide HR2) (unhide HO) (unhide HNE)).nat hlt
        have hx := unhide HWB k hlt
        have HTK := hide (fun i => Wm.wcnt_take (L := L) hlt i)
        generalize L.getD k 0 = x at *
        have hx16 : x < 65536 := Nat.lt_of_lt_of_le hx (Nat.le_trans (Nat.pow_le_pow_right (by omega) (show N ≤ 16 by omega)) (by decide))
        have hq := Wm.ones_lt hx (by omega)
        have CO := hide (fun w : World => count16_any x hx16 w)
        generalize Wm.ones x 16 = q at *
        have hcq := (unhide HM).nat (k := q) (by omega)
        rw [Wm.mkS_get _ (by omega)] at hcq
        have hfq := (unhide HM).frozen q
        have hvl : Wm.wcnt (L.take k) q ≤ 64 := Nat.le_trans (Wm.wcnt_le _ _) (by rw [List.length_take]; omega)
        have HMS := hide (fun d => show Made ((wr.drewN d).setCell ⟨g, q, none⟩ (.int .i64 ((Wm.wcnt (L.take k) q + 1 : Nat) : Int))) w.heap.size 3 1 (.slice (some ⟨g, 0, none⟩) (N + 1) (N + 1)) (N + 1) (nats .i64 (Wm.mkS (N + 1) (Wm.wcnt (L.take (k + 1))))) by
          have := ((unhide HM).keep ((Ext.refl wr).drewN d)).set (j := q) (by omega) (.int .i64 ((Wm.wcnt (L.take k) q + 1 : Nat) : Int))
          rw [nats_set, mkS_set _ _ _ (by omega)] at this
          rw [Wm.mkS_congr (f := Wm.wcnt (L.take (k + 1))) (g := fun i => if i = q then Wm.wcnt (L.take k) q + 1 else Wm.wcnt (L.take k) i) fun i _ => by
            rw [unhide HTK i]
            by_cases e : i = q
            · rw [if_pos e, if_pos e, e]
            · rw [if_neg e, if_neg e]]
          exact this)
        have HOS := hide (fun d => ((unhide HO).trans (Oth.of_ext ((Ext.refl wr).drewN d))).set (j := q) (.int .i64 ((Wm.wcnt (L.take k) q + 1 : Nat) : Int)))
        generalize Wm.wcnt (L.take k) q = v at *
        clear HTK HM HO
        go_wp2_with fail
        refine (unhide CO _).mono ?_
        rintro e w3 ⟨rfl, d, rfl⟩
        go_wp2
        go_roundw
        case rel => exact ⟨k + 1, by omega, by go_num, hide (unhide HMS d), hide (unhide HOS d)⟩
        case measure => simp [intOf]; omega
      · obtain rfl : k = L.length := by omega
        have HM3 := HM
        rw [List.take_length] at HM3
        have HEE := hide ((unhide HO).ext (unhide HE2) hgb)
        go_wp2
        go_ret2
        exact ⟨unhide HW _ _ (unhide HM3), unhide HEE⟩
  · have HK := hide hk
    obtain ⟨k, hkk⟩ : ∃ k, k = Wm.chkL n l := ⟨_, rfl⟩
    rw [← hkk] at CK hk
    have HKK := hide hkk
    have hkB : (k != 0) = true := by simpa using hk
    clear hkk R hl
    go_enter Try.func22, Try.ntmps22
    go_wp2_with fail
    refine (unhide CK).mono ?_
    rintro e w1 ⟨rfl, E1⟩
    go_wp2
    go_ret2
    exact ⟨.inl ⟨unhide HK, by rw [unhide HKK]; rfl⟩, E1⟩
end Go.Proofs.Ytbejhfafipedmaa

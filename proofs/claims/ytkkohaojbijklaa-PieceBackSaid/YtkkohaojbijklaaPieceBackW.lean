/-
  The walk of the law PieceBack.
-/
import Derived.Test.YtkkohaojbijklaaPiece11
set_option linter.unusedVariables false
set_option linter.unusedSimpArgs false
namespace Go.Proofs.Ytkkohaojbijklaa
open Go.RowKit Go.BigFrame

set_option maxRecDepth 100000 in
set_option maxHeartbeats 4000000 in
theorem back_law (s : ByteArray) (K N : Int) (st : Nat) (hss : (s.size : Int) ≤ 9223372036854775807) (hst : st < 65536) (w : World) :
    Calls Try.prog 9 #[.string s, .int .i64 K, .int .i64 N, .int .u16 (st : Int)] w fun e w' => e = .returned (.bool true) ∧ Ext w w' := by
  have CP := hide (pieces_any w)
  have CS := hide (fun w => Split_any s K N w hss)
  go_enter Try.func9, Try.ntmps9
  go_wp2_with fail
  refine (unhide CP).mono ?_
  rintro e w1 ⟨rfl, E1⟩
  go_wp2_with fail
  refine (unhide CS _).mono ?_
  rintro e w2 ⟨ho, E2⟩
  have HE2 := hide (E1.trans E2)
  have HS1 := hide E1.size
  unfold SplitOut at ho
  clear E1 E2 CS CP
  rcases ho with ⟨hp, rfl⟩ | ⟨hp, k, n, g, rfl, rfl, h1, hkn, hn, hs, rfl, M⟩
  · have hpB : (splErr s K N != 0) = true := by rw [bne_iff_ne]; exact hp
    generalize splErr s K N = r at *
    go_wp2
    go_ret
    exact ⟨rfl, unhide HE2⟩
  · have HM := hide M
    obtain ⟨L, hL⟩ : ∃ L, L = splitL s k n := ⟨_, rfl⟩
    have HBP := hide (back_plain (st := st) hs h1 hkn hn)
    have HPP := hide (fun (x : Nat) (h : x < n) => piece_parts hs h1 hkn hn h)
    have HLN := hide (splitL_length s k n)
    rw [← hL] at HM HBP HPP HLN
    have HM0 := HM
    rw [← setP_zero st (unhide HLN)] at HM0
    have hgw := M.lt g rfl
    have HSZ := hide (unhide HE2).size
    clear M hp hL
    go_wp2
    go_loopw [11, 31] (fun h i wr => ∃ x : Nat, x ≤ n ∧ i = .int .i64 x ∧ (∃ c : Nat, Hid (c = Wm.cntR st.testBit x) ∧ c ≤ x ∧ h = .int .i64 c) ∧ Hid (Made wr w1.heap.size 9 1 (.slice (some ⟨g, 0, none⟩) n n) n (strs (setP L st n x))) ∧ Hid (Ext w wr)) (fun _ i _ => n - (intOf i).toNat)
    case atStart => exact ⟨0, Nat.zero_le _, rfl, ⟨0, hide rfl, Nat.le_refl _, rfl⟩, HM0, HE2⟩
    case round =>
      obtain ⟨x, hx, rfl, ⟨cn, HCN, hcx, rfl⟩, HMM, HEX⟩ := hrel
      by_cases hlt : x < n
      · have hc := (unhide HMM).cell hlt
        have hf := (unhide HMM).frozen x
        have hcs : (strs (setP L st n x)).getD x undef = .string (L.getD x ByteArray.empty) := by
          rw [List.getD_eq_getElem?_getD, strs_get _ _ (by rw [setP_length]; exact hlt), setP_get _ _ hlt, if_neg (by omega)]; rfl
        rw [hcs] at hc
        have hpp := unhide HPP x hlt
        obtain ⟨z, hz⟩ : ∃ z, z = L.getD x ByteArray.empty := ⟨_, rfl⟩
        rw [← hz] at hc hpp
        have CC := hide (fun w => Check_any z (k : Int) w (by have := hpp.1; have := sz_le (l := s.size) h1; omega))
        rw [hpp.2.1] at CC
        obtain ⟨q, hq⟩ : ∃ q, q = st.testBit x := ⟨_, rfl⟩
        have hA : bits .and .u16 ((st : Int) / 2 ^ x) 1 = ((q.toNat : Nat) : Int) := by rw [hq]; exact u16_bit st x hst
        have HQ := hide hq
        have HZ := hide hz
        clear hcs hpp hz hq
        go_wp2_with fail
        refine (unhide CC _).mono ?_
        rintro e w3 ⟨rfl, E3⟩
        have HM3 := hide ((unhide HMM).keep E3)
        have HE3 := hide ((unhide HEX).trans E3)
        have hc3 := (unhide HM3).cell hlt
        have hf3 := (unhide HM3).frozen x
        clear E3 CC
        cases q with
        | true =>
          have hA1 : bits .and .u16 ((st : Int) / 2 ^ x) 1 = 1 := hA
          clear hA
          rw [setP_keep L (unhide HQ).symm] at HM3
          have HC2 := hide (show cn + 1 = Wm.cntR st.testBit (x + 1) from by simp only [Wm.cntR]; rw [← unhide HCN, ← unhide HQ]; rfl)
          go_wp2
          go_roundw
          case rel => exact ⟨x + 1, by omega, by go_num, ⟨cn + 1, HC2, by omega, by go_num⟩, HM3, HE3⟩
          case measure => simp [intOf]; omega
        | false =>
          have hA1 : bits .and .u16 ((st : Int) / 2 ^ x) 1 = 0 := hA
          clear hA
          have HM4 := hide ((unhide HM3).set (j := x) (by omega) (.string ByteArray.empty))
          rw [strs_set, setP_cut L hlt (unhide HQ).symm] at HM4
          have HE4 := hide (show Ext w (w3.setCell ⟨g, x, none⟩ (.string ByteArray.empty)) from (unhide HE3).setCell (by have := hgw.1; have := unhide HS1; simp; omega) _)
          have HC2 := hide (show cn = Wm.cntR st.testBit (x + 1) from by simp only [Wm.cntR]; rw [← unhide HCN, ← unhide HQ]; rfl)
          go_wp2
          go_roundw
          case rel => exact ⟨x + 1, by omega, by go_num, ⟨cn, HC2, by omega, rfl⟩, HM4, HE4⟩
          case measure => simp [intOf]; omega
      · obtain rfl : n = x := by omega
        obtain ⟨A1, c1, hA1, RL, -, -, -⟩ := (unhide HMM).open_
        injection hA1 with hA1 _ hc1
        subst hA1; subst hc1
        have hszs : ∀ t ∈ setP L st n n, (t.size : Int) ≤ 9223372036854775807 := fun t ht => by
          obtain ⟨j, hj, rfl⟩ := List.mem_map.1 ht
          have hj := List.mem_range.1 hj
          have hp := (unhide HPP j hj).1
          have := sz_le (l := s.size) h1
          split
          · show ((0 : Nat) : Int) ≤ _; omega
          · omega
        have CJ := hide (Join_ok (some ⟨g, 0, none⟩) n n k (setP L st n n) wr RL hszs h1 hkn hn)
        obtain ⟨he, ht⟩ := unhide HBP
        by_cases hck : cn < k
        · have HO := hide (joinOut_bad (L := setP L st n n) (k := (k : Int)) (r := 9) (by rw [he, if_pos (by rw [← unhide HCN]; exact hck)]) (by omega))
          rw [unhide HO] at CJ
          have hckI : (cn : Int) < (k : Int) := by omega
          clear RL hszs he ht
          go_wp2_with fail
          refine (unhide CJ).mono ?_
          rintro e w3 ⟨rfl, E3⟩
          have HE3 := hide ((unhide HEX).trans E3)
          clear E3
          go_wp2
          go_ret
          exact ⟨rfl, unhide HE3⟩
        · have HO := hide (joinOut_good (L := setP L st n n) (k := (k : Int)) (by rw [he, if_neg (by rw [← unhide HCN]; exact hck)]))
          rw [Int.toNat_natCast, ht (by rw [← unhide HCN]; omega)] at HO
          rw [unhide HO] at CJ
          have hckI : ¬ (cn : Int) < (k : Int) := by omega
          clear RL hszs he ht
          go_wp2_with fail
          refine (unhide CJ).mono ?_
          rintro e w3 ⟨rfl, E3⟩
          have HE3 := hide ((unhide HEX).trans E3)
          clear E3
          go_wp2
          go_ret
          exact ⟨rfl, unhide HE3⟩
end Go.Proofs.Ytkkohaojbijklaa

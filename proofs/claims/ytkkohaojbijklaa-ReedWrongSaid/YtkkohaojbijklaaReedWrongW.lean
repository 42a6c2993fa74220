/-
  The walk of the law ReedWrong.
-/
import Derived.Test.YtkkohaojbijklaaReed6
import Derived.Test.YtkkohaojbijklaaBits1
set_option linter.unusedVariables false
set_option linter.unusedSimpArgs false
namespace Wm
theorem full_bit {n i : Nat} (h : i < n) : (2 ^ n - 1).testBit i = true := by rw [Nat.testBit_two_pow_sub_one]; exact decide_eq_true h
theorem pk_full {H : Nat → Bool} : ∀ {n : Nat}, (∀ i, i < n → H i = true) → pk H n = List.range n
  | 0, _ => rfl
  | n + 1, h => by
    rw [pk, h n (by omega), if_pos rfl, pk_full (fun i hi => h i (by omega)), List.range_succ]
theorem full_H (bs : List Nat) (n i : Nat) (h : i < n) : cH (cellsL bs (2 ^ n - 1) n) i = true := by
  unfold cH; rw [cellsL_get _ _ h]; exact full_bit h
theorem full_B (bs : List Nat) (n i : Nat) (h : i < n) : cB (cellsL bs (2 ^ n - 1) n) i = bs.getD i 0 := by
  unfold cB; rw [cellsL_get _ _ h, full_bit h]; rfl
theorem full_mend {bs : List Nat} {n k : Nat} (hl : bs.length = n) (hk : k ≤ n) : mendL (cellsL bs (2 ^ n - 1) n) k = putL (bs.take k) n := by
  have hp : pt (cH (cellsL bs (2 ^ n - 1) n)) k n = List.range k := by
    unfold pt
    rw [pk_full (full_H bs n), List.take_range, Nat.min_eq_left hk]
  unfold mendL
  rw [cellsL_length, hp]
  have hm : (List.range k).map (cB (cellsL bs (2 ^ n - 1) n)) = bs.take k := by
    refine list_ext_getD (by simp; omega) fun i hi => ?_
    rw [List.length_map, List.length_range] at hi
    rw [getD_map_ 0 (by simpa using hi), getD_range hi, full_B _ _ _ (by omega), List.getD_eq_getElem?_getD, List.getD_eq_getElem?_getD, List.getElem?_take_of_lt hi]
  rw [hm]
  unfold putL
  rw [List.length_take, Nat.min_eq_left (by omega)]
theorem full_cnt (bs : List Nat) (n : Nat) : cnt (cH (cellsL bs (2 ^ n - 1) n)) n = n := by rw [← pk_length, pk_full (full_H bs n), List.length_range]
theorem full_bad {bs : List Nat} {n k : Nat} (hl : bs.length = n) (hk : k ≤ n) (h : ∃ i, i < n ∧ bs.getD i 0 ≠ (putL (bs.take k) n).getD i 0) : mendN (cellsL bs (2 ^ n - 1) n) k n = true := by
  cases hN : mendN (cellsL bs (2 ^ n - 1) n) k n with
  | true => rfl
  | false =>
    obtain ⟨i, hi, hne⟩ := h
    have := mendN_no hN i hi (full_H bs n i hi)
    rw [full_B _ _ _ hi, full_mend hl hk] at this
    exact absurd this hne
/-- A row with one byte turned: Mend tells. -/
theorem turned {d : List Nat} {n a y : Nat} (hd : B256 d) (hn : n ≤ 256) (hk : d.length < n) (ha : a < n) (hy : y < 256) (h0 : y ≠ 0) :
    mendN (cellsL ((putL d n).set a ((putL d n).getD a 0 ^^^ y)) (2 ^ n - 1) n) d.length n = true := by
  have hlt : (putL d n).getD a 0 < 256 := rowL_lt (B256.range (by omega)) hd hn a
  refine full_bad (by rw [List.length_set, putL_length]) (by omega) (wrong hd hn hk ha (Nat.xor_lt_two_pow (n := 8) hlt hy) fun e => h0 ?_)
  have := congrArg ((putL d n).getD a 0 ^^^ ·) e
  simpa [← Nat.xor_assoc] using this
end Wm
namespace Go.Proofs.Ytkkohaojbijklaa
open Go.RowKit Go.BigFrame

theorem Made.at_ {w : World} {base : Nat} {e : TypeId} {sz n : Nat} {v : Value} {xs : List Value} (h : Made w base e sz v n xs) (hn : 1 ≤ n) : ∃ g c, v = .slice (some ⟨g, 0, none⟩) n c ∧ base ≤ g ∧ n ≤ c := by
  rcases h.2 with ⟨-, h⟩ | ⟨g, c, cur, hv, hg, -, hc, -⟩
  · omega
  · exact ⟨g, c, hv, hg, hc⟩

set_option maxRecDepth 100000 in
set_option maxHeartbeats 4000000 in
theorem wrong_law (A : Option Addr) (k c : Nat) (d : List Nat) (N at_ : Int) (y : Nat) (hy : y < 256) (w : World) (SA : SliceIn w A k c 1 1 (nats .u8 d)) (ha : ∀ x ∈ d, x < 256) :
    Calls Try.prog 5 #[.slice A k c, .int .i64 N, .int .i64 at_, .int .u8 y] w fun e w' => e = .returned (.bool true) ∧ Ext w w' := by
  have hB := Wm.B256.of ha
  have HA := hide SA.1
  have hla := SA.1.numN
  clear SA ha
  have CA := hide (fun (wz : World) (E : Ext w wz) => Put_any A k c N d wz ((unhide HA).keep E) hB)
  have HLA := hide hla
  have HBA := hide hB
  clear hla hB
  go_enter Try.func5, Try.ntmps5
  go_wp2_with fail
  refine (rows_any w).mono ?_
  rintro e w1 ⟨rfl, E1⟩
  go_wp2_with fail
  refine (unhide CA _ E1).mono ?_
  rintro e w2 ⟨ho, E2⟩
  obtain ⟨v1, q1, rfl, hq1, hv1, ho1⟩ := ho.halves
  have hsz := E1.size
  have E2 := E1.trans E2
  have HO1 := hide ho1
  have HE2 := hide E2
  clear ho hq1 hv1 ho1 E1 CA E2
  by_cases h1 : q1 = 0
  · subst h1
    obtain ⟨m, rfl, hk1, hkm, hm, M⟩ := unhide HO1 rfl
    clear HO1
    obtain ⟨g, cb, rfl, hg, hcb⟩ := M.at_ (by omega)
    by_cases hmk : m = k
    · subst hmk
      clear M
      go_wp2
      go_ret
      exact ⟨rfl, unhide HE2⟩
    · have hmkI : ¬ (m : Int) = (k : Int) := by omega
      by_cases hy0 : y = 0
      · subst hy0
        clear M
        go_wp2
        go_ret
        exact ⟨rfl, unhide HE2⟩
      · have hy0I : ¬ (y : Int) = 0 := by omega
        have hmkB : ((m : Int) == (k : Int)) = false := by rw [beq_eq_false_iff_ne]; exact hmkI
        have hy0B : ((y : Int) == 0) = false := by rw [beq_eq_false_iff_ne]; exact hy0I
        have hmm : ((m : Int) != (m : Int)) = false := by simp
        obtain ⟨r, hr0, hr1, -, CW⟩ := within_ex at_ m (by omega) (by omega)
        obtain ⟨a, rfl⟩ : ∃ a : Nat, r = a := ⟨r.toNat, by omega⟩
        have ham : a < m := by omega
        have hgl : g < w2.heap.size := (M.lt g rfl).2
        have hc := M.nat ham
        have hf := M.frozen a
        have hxl : (Wm.putL d m).getD a 0 < 256 := Wm.putL_lt (unhide HBA) (by rw [unhide HLA]; omega) (by omega) a
        have hx := u8_xor_nat _ y hxl hy
        have HT := hide (Wm.turned (unhide HBA) (n := m) (by omega) (by rw [unhide HLA]; omega) ham hy hy0)
        rw [unhide HLA] at HT
        have M2 := M.set (j := a) (by omega) (.int .u8 (((Wm.putL d m).getD a 0 ^^^ y : Nat) : Int))
        rw [nats_set] at M2
        have hB2 := hide (show Wm.B256 ((Wm.putL d m).set a ((Wm.putL d m).getD a 0 ^^^ y)) from Wm.B256.of fun x hx => by
          rcases List.mem_or_eq_of_mem_set hx with h | h
          · exact (Wm.putL_lt (unhide HBA) (n := m) (by rw [unhide HLA]; omega) (by omega)).mem x h
          · subst h; exact Nat.xor_lt_two_pow (n := 8) hxl hy)
        have HM2 := hide M2
        have HCN := hide (Wm.full_cnt ((Wm.putL d m).set a ((Wm.putL d m).getD a 0 ^^^ y)) m)
        generalize (Wm.putL d m).set a ((Wm.putL d m).getD a 0 ^^^ y) = bs at *
        generalize (Wm.putL d m).getD a 0 = x at *
        clear M M2
        go_wp2_with fail
        refine (unhide CW _).mono ?_
        rintro e w3 ⟨rfl, rfl⟩
        have h2 : 2 ^ m ≤ 2 ^ 20 := Nat.pow_le_pow_right (by omega) hm
        have h3 : 1 ≤ 2 ^ m := Nat.one_le_two_pow
        have hS : (((2 ^ m : Int) - 1) % 4294967296) = ((2 ^ m - 1 : Nat) : Int) := by
          rw [Int.natCast_sub h3, Int.natCast_pow]
          have h4 : ((2 : Int) ^ m) ≤ 2 ^ 20 := by exact_mod_cast h2
          have h5 : (1 : Int) ≤ 2 ^ m := by exact_mod_cast h3
          show ((2 : Int) ^ m - 1) % 4294967296 = 2 ^ m - 1
          generalize (2 : Int) ^ m = z at *
          rw [Int.emod_eq_of_lt (by omega) (by omega)]
        have HE3 := hide ((unhide HE2).setCell (p := ⟨g, a, none⟩) (by show w.heap.size ≤ g; omega) (.int .u8 ((x ^^^ y : Nat) : Int)))
        have HS := hide hS
        have hs : 2 ^ m - 1 < 4294967296 := by omega
        have hS2 := hide hs
        clear h2 h3 hS hs HE2 hxl
        go_wp2_with fail
        clear hc hf hx
        generalize w3.setCell ⟨g, a, none⟩ (.int .u8 ((x ^^^ y : Nat) : Int)) = w4 at *
        obtain ⟨B, cb', hv, RB, -, -, -⟩ := (unhide HM2).open_
        obtain ⟨rfl, -, rfl⟩ := Value.slice.inj hv
        have CC := hide (cells_ok (some ⟨g, 0, none⟩) m cb bs (2 ^ m - 1) w4 RB (by omega) (unhide hS2) (unhide hB2))
        rw [← unhide HS] at CC
        refine (unhide CC).mono ?_
        rintro e w5 ⟨⟨v, rfl, M⟩, E5⟩
        obtain ⟨D, cd, rfl, RD, -, -, -⟩ := M.open_
        have CM := hide (RMend_ok D k cd m (Wm.cellsL bs (2 ^ m - 1) m) w5 RD (fun i => by
          by_cases h : i < m
          · rw [Wm.full_B _ _ _ h]; exact unhide hB2 i
          · unfold Wm.cB
            rw [List.getD_eq_getElem?_getD, List.getElem?_eq_none (by rw [Wm.cellsL_length]; omega)]
            exact Nat.zero_lt_succ _) hk1 hkm hm)
        have HE5 := hide ((unhide HE3).trans E5)
        clear RB RD M CC HE3 E5
        go_wp2_with fail
        refine (unhide CM).mono ?_
        rintro e w6 ⟨ho, E6⟩
        have HE6 := hide ((unhide HE5).trans E6)
        rcases ho with ⟨h1, -⟩ | ⟨-, -, rfl⟩ | ⟨-, h2, -⟩
        · rw [unhide HCN] at h1; omega
        · clear CM E6 HE5
          go_wp2
          go_ret
          have HX2 := unhide HE6
          exact ⟨rfl, (by repeat (first | exact HX2 | refine Ext.alloc ?_ _ | refine Ext.drew ?_ | refine Ext.drewN ?_ _ | (refine Ext.trans ?_ (plus_ext _ _)) | (refine Ext.setCell ?_ (by have := Ext.size HX2; simp; omega) _)))⟩
        · rw [unhide HT] at h2; cases h2
  · have hne : (q1 != 0) = true := by rw [bne_iff_ne]; exact h1
    clear HO1
    go_wp2
    go_ret
    exact ⟨rfl, unhide HE2⟩
end Go.Proofs.Ytkkohaojbijklaa

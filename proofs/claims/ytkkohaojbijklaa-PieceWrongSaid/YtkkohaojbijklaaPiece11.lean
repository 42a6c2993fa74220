/-
  The laws' own example of pieces; a bit of a set; which of the pieces a set leaves.
-/
import Derived.Test.YtkkohaojbijklaaPiece10
set_option linter.unusedVariables false
set_option linter.unusedSimpArgs false
namespace Go.Proofs.Ytkkohaojbijklaa
open Go.RowKit Go.BigFrame

theorem u16_bit (s x : Nat) (hs : s < 65536) : bits .and .u16 ((s : Int) / 2 ^ x) 1 = (((s.testBit x).toNat : Nat) : Int) := by
  have h1 : ((s : Int) / 2 ^ x) = ((s / 2 ^ x : Nat) : Int) := by rw [Int.natCast_ediv, Int.natCast_pow]; rfl
  have h2 : s / 2 ^ x < 2 ^ 16 := Nat.lt_of_le_of_lt (Nat.div_le_self _ _) hs
  rw [h1, Nat.toNat_testBit]
  show IntKind.u16.wrap ((BitVec.ofInt 16 ((s / 2 ^ x : Nat) : Int) &&& BitVec.ofInt 16 ((1 : Nat) : Int)).toNat : Int) = _
  rw [BitVec.toNat_and, ofInt_nat 16 _ h2, ofInt_nat 16 1 (by omega), Nat.and_one_is_mod]
  have : s / 2 ^ x % 2 < 2 := Nat.mod_lt _ (by omega)
  exact IntWalk.u16_in _ (by omega)

/-- The pieces, of the first x of them those that are not in the set struck out. -/
def setP (L : List ByteArray) (s n x : Nat) : List ByteArray := (List.range n).map fun t => if t < x ∧ s.testBit t = false then ByteArray.empty else L.getD t ByteArray.empty
theorem setP_length (L : List ByteArray) (s n x : Nat) : (setP L s n x).length = n := by simp [setP]
theorem setP_zero {L : List ByteArray} {n : Nat} (s : Nat) (h : L.length = n) : setP L s n 0 = L := by
  apply List.ext_getElem (by simp [setP, h])
  intro t h1 h2
  simp [setP, List.getD_eq_getElem?_getD, List.getElem?_eq_getElem h2]
theorem setP_get (L : List ByteArray) (s : Nat) {n x t : Nat} (ht : t < n) : (setP L s n x).getD t ByteArray.empty = if t < x ∧ s.testBit t = false then ByteArray.empty else L.getD t ByteArray.empty := by
  unfold setP
  rw [List.getD_eq_getElem?_getD, List.getElem?_map, List.getElem?_range ht]; rfl
theorem setP_cut (L : List ByteArray) {s n x : Nat} (hx : x < n) (h : s.testBit x = false) : (setP L s n x).set x ByteArray.empty = setP L s n (x + 1) := by
  apply List.ext_getElem (by simp [setP])
  intro t h1 h2
  rw [List.getElem_set]
  simp only [setP, List.getElem_map, List.getElem_range]
  by_cases e : x = t
  · subst e; rw [if_pos rfl, if_pos ⟨Nat.lt_succ_self x, h⟩]
  · rw [if_neg e]
    by_cases c : t < x ∧ s.testBit t = false
    · rw [if_pos c, if_pos ⟨show t < x + 1 by omega, c.2⟩]
    · rw [if_neg c, if_neg (fun d => c ⟨by omega, d.2⟩)]
theorem setP_keep (L : List ByteArray) {s n x : Nat} (h : s.testBit x = true) : setP L s n x = setP L s n (x + 1) := by
  apply List.ext_getElem (by simp [setP])
  intro t h1 h2
  simp only [setP, List.getElem_map, List.getElem_range]
  by_cases c : t < x ∧ s.testBit t = false
  · rw [if_pos c, if_pos ⟨show t < x + 1 by omega, c.2⟩]
  · rw [if_neg c, if_neg (fun d => c ⟨by
      by_cases e : t = x
      · subst e; rw [h] at d; exact absurd d.2 (by decide)
      · omega, d.2⟩)]
theorem cntR_congr {f g : Nat → Bool} : ∀ n, (∀ i, i < n → f i = g i) → Wm.cntR f n = Wm.cntR g n
  | 0, _ => rfl
  | n + 1, h => by simp only [Wm.cntR]; rw [cntR_congr n fun i hi => h i (by omega), h n (by omega)]
/-- What the law PieceBack says, plain. -/
theorem back_plain {s : ByteArray} {k n st : Nat} (hs : s.size ≤ 60) (h1 : 1 ≤ k) (hkn : k ≤ n) (hn : n ≤ 10) :
    joinErr (setP (splitL s k n) st n n) (k : Int) = (if Wm.cntR st.testBit n < k then 9 else 0) ∧ (k ≤ Wm.cntR st.testBit n → strN (joinText (setP (splitL s k n) st n n) k) = s) := by
  have hu : ∀ j, j < n → usab (setP (splitL s k n) st n n) k j = st.testBit j := fun j hj => by
    unfold usab
    rw [setP_get _ _ hj]
    cases hb : st.testBit j with
    | true => rw [if_neg (by simp), (piece_parts hs h1 hkn hn hj).2.1]; rfl
    | false => rw [if_pos ⟨hj, rfl⟩, empty_bad h1 (by omega)]; rfl
  have h := join_true (L := setP (splitL s k n) st n n) hs h1 hkn hn (setP_length ..) (fun j hj hj2 => by
    rw [hu j hj] at hj2
    rw [setP_get _ _ hj, if_neg (by rw [hj2]; simp)])
  rw [cntR_congr n hu] at h
  exact h

set_option maxRecDepth 100000 in
theorem prefix_yes (s p : ByteArray) (w : World) (hs : (s.size : Int) ≤ 9223372036854775807) (h : p.size ≤ s.size) (he : s.extract 0 p.size = p) :
    Calls Try.prog 39 #[.string s, .string p] w fun e w' => e = .returned (.bool true) ∧ w' = w := by
  have hI : (p.size : Int) ≤ (s.size : Int) := by omega
  have C := hide (show Calls Try.prog 54 #[.string s, .string p] w fun e w' => e = .returned (.bool true) ∧ w' = w from by
    go_enter Try.func54, Try.ntmps54
    go_wp2
    go_ret
    exact ⟨rfl, rfl⟩)
  go_enter Try.func39, Try.ntmps39
  go_wp2_with fail
  refine (unhide C).mono ?_
  rintro e w' ⟨rfl, rfl⟩
  go_wp2
  go_ret
  exact ⟨rfl, rfl⟩
theorem sum_ex : 4294967295 ^^^ crcS (sby ⟨#[49, 50, 51, 52, 53, 54, 55, 56, 57]⟩) (ByteArray.mk #[49, 50, 51, 52, 53, 54, 55, 56, 57]).size = 3808858755 := by decide +kernel
theorem split_ex : (splitL ⟨#[97, 98]⟩ 2 3).length = 3 ∧ ((splitL ⟨#[97, 98]⟩ 2 3).getD 0 ByteArray.empty).extract 0 2 = ⟨#[2, 97]⟩ ∧ ((splitL ⟨#[97, 98]⟩ 2 3).getD 1 ByteArray.empty).extract 0 2 = ⟨#[2, 98]⟩ := by
  refine ⟨splitL_length .., ?_, ?_⟩ <;> decide +kernel

set_option maxRecDepth 100000 in
set_option maxHeartbeats 1000000 in
theorem pieces_any (w : World) : Calls Try.prog 23 #[] w fun e w' => e = .returned (.bool true) ∧ Ext w w' := by
  have CS := hide (Split_ok ⟨#[97, 98]⟩ 2 3 w (by decide) (by omega) (by omega) (by omega))
  have CU := hide (fun w => Sum_any ⟨#[49, 50, 51, 52, 53, 54, 55, 56, 57]⟩ (by decide) w)
  rw [sum_ex] at CU
  obtain ⟨e1, e2, e3⟩ := split_ex
  have hp0 := piece_parts (s := ⟨#[97, 98]⟩) (k := 2) (n := 3) (j := 0) (by decide) (by omega) (by omega) (by omega) (by omega)
  have hp1 := piece_parts (s := ⟨#[97, 98]⟩) (k := 2) (n := 3) (j := 1) (by decide) (by omega) (by omega) (by omega) (by omega)
  obtain ⟨L, hL⟩ : ∃ L, L = splitL ⟨#[97, 98]⟩ 2 3 := ⟨_, rfl⟩
  rw [← hL] at CS e1 e2 e3 hp0 hp1
  have hs0 := hp0.1
  have hs1 := hp1.1
  obtain ⟨s0, h0⟩ : ∃ s0, s0 = L.getD 0 ByteArray.empty := ⟨_, rfl⟩
  obtain ⟨s1, h1⟩ : ∃ s1, s1 = L.getD 1 ByteArray.empty := ⟨_, rfl⟩
  rw [← h0] at e2 hs0
  rw [← h1] at e3 hs1
  have hz : sz (ByteArray.mk #[97, 98]).size 2 = 1 := by decide
  rw [hz] at hs0 hs1
  have P0 := hide (fun w => prefix_yes s0 ⟨#[2, 97]⟩ w (by omega) (by show 2 ≤ _; omega) e2)
  have P1 := hide (fun w => prefix_yes s1 ⟨#[2, 98]⟩ w (by omega) (by show 2 ≤ _; omega) e3)
  have H0 := hide h0
  have H1 := hide h1
  have HE := hide e1
  clear hp0 hp1 hs0 hs1 e1 e2 e3 hz hL h0 h1
  go_enter Try.func23, Try.ntmps23
  go_wp2_with fail
  refine (unhide CS).mono ?_
  rintro e w2 ⟨⟨g, rfl, M⟩, E2⟩
  have hc0 := M.cell (k := 0) (by omega)
  have hc1 := M.cell (k := 1) (by omega)
  have k0 : (strs L).getD 0 undef = .string s0 := by
    rw [List.getD_eq_getElem?_getD, strs_get _ _ (by rw [unhide HE]; omega), unhide H0]; rfl
  have k1 : (strs L).getD 1 undef = .string s1 := by
    rw [List.getD_eq_getElem?_getD, strs_get _ _ (by rw [unhide HE]; omega), unhide H1]; rfl
  rw [k0] at hc0
  rw [k1] at hc1
  have HE2 := hide E2
  clear M E2 k0 k1 CS
  go_wp2_with fail
  refine (unhide P0 _).mono ?_
  rintro e w3 ⟨rfl, rfl⟩
  go_wp2_with fail
  refine (unhide P1 _).mono ?_
  rintro e w3 ⟨rfl, rfl⟩
  go_wp2_with fail
  refine (unhide CU _).mono ?_
  rintro e w3 ⟨rfl, rfl⟩
  go_wp2
  go_ret
  exact ⟨rfl, unhide HE2⟩
end Go.Proofs.Ytkkohaojbijklaa

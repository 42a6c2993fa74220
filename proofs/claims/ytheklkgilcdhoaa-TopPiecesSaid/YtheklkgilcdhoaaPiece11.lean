/-
  The laws' own example of pieces; a bit of a set; which of the pieces a set leaves.
-/
import Derived.Test.YtheklkgilcdhoaaPiece10
set_option linter.unusedVariables false
set_option linter.unusedSimpArgs false
namespace Go.Proofs.Ytheklkgilcdhoaa
open Go.RowKit Go.BigFrame

theorem u16_bit (s x : Nat) (hs : s < 65536) : bits .and .u16 ((s : Int) / 2 ^ x) 1 = (((s.testBit x).toNat : Nat) : Int) := by
  have h1 : ((s : Int) / 2 ^ x) = ((s / 2 ^ x : Nat) : Int) := by rw [Int.natCast_ediv, Int.natCast_pow]; rfl
  have h2 : s / 2 ^ x < 2 ^ 16 := Nat.lt_of_le_of_lt (Nat.div_le_self _ _) hs
  rw [h1, Nat.toNat_testBit]
  show IntKind.u16.wrap ((BitVec.ofInt 16 ((s / 2 ^ x : Nat) : Int) &&& BitVec.ofInt 16 ((1 : Nat) : Int)).toNat : Int) = _
  rw [BitVec.toNat_and, ofInt_nat 16 _ h2, ofInt_nat 16 1 (by omega), Nat.and_one_is_mod]
  have : s / 2 ^ x % 2 < 2 := Nat.mod_lt _ (by omega)
  exact IntWalk.u16_in _ (by omega)

/-- The pieces, of the first x of them those that are not in the set struck out. -/
def setP (L : List ByteArray) (s n x : Nat) : List ByteArray := (List.range n).map fun t => if t < x ∧ s.testBit t = false then ByteArray.empty else L.getD t ByteArray.empty
theorem setP_length (L : List ByteArray) (s n x : Nat) : (setP L s n x).length = n := by simp [setP]
theorem setP_zero {L : List ByteArray} {n : Nat} (s : Nat) (h : L.length = n) : setP L s n 0 = L := by
  apply List.ext_getElem (by simp [setP, h])
  intro t h1 h2
  simp [setP, List.getD_eq_getElem?_getD, List.getElem?_eq_getElem h2]
theorem setP_get (L : List ByteArray) (s : Nat) {n x t : Nat} (ht : t < n) : (setP L s n x).getD t ByteArray.empty = if t < x ∧ s.testBit t = false then ByteArray.empty else L.getD t ByteArray.empty := by
  unfold setP
  rw [List.getD_eq_getElem?_getD, List.getElem?_map, List.getElem?_range ht]; rfl
theorem setP_cut (L : List ByteArray) {s n x : Nat} (hx : x < n) (h : s.testBit x = false) : (setP L s n x).set x ByteArray.empty = setP L s n (x + 1) := by
  apply List.ext_getElem (by simp [setP])
  intro t h1 h2
  rw [List.getElem_set]
  simp only [setP, List.getElem_map, List.getElem_range]
  by_cases e : x = t
  · subst e; rw [if_pos rfl, if_pos ⟨Nat.lt_succ_self x, h⟩]
  · rw [if_neg e]
    by_cases c : t < x ∧ s.testBit t = false
    · rw [if_pos c, if_pos ⟨show t < x + 1 by omega, c.2⟩]
    · rw [if_neg c, if_neg (fun d => c ⟨by omega, d.2⟩)]
theorem setP_keep (L : List ByteArray) {s n x : Nat} (h : s.testBit x = true) : setP L s n x = setP L s n (x + 1) := by
  apply List.ext_getElem (by simp [setP])
  intro t h1 h2
  simp only [setP, List.getElem_map, List.getElem_range]
  by_cases c : t < x ∧ s.testBit t = false
  · rw [if_pos c, if_pos ⟨show t < x + 1 by omega, c.2⟩]
  · rw [if_neg c, if_neg (fun d => c ⟨by
      by_cases e : t = x
      · subst e; rw [h] at d; exact absurd d.2 (by decide)
      · omega, d.2⟩)]
theorem cntR_congr {f g : Nat → Bool} : ∀ n, (∀ i, i < n → f i = g i) → Wm.cntR f n = Wm.cntR g n
  | 0, _ => rfl
  | n + 1, h => by simp only [Wm.cntR]; rw [cntR_congr n fun i hi => h i (by omega), h n (by omega)]
/-- What the law PieceBack says, plain. -/
theorem back_plain {s : ByteArray} {k n st : Nat} (hs : s.size ≤ 60) (h1 : 1 ≤ k) (hkn : k ≤ n) (hn : n ≤ 10) :
    joinErr (setP (splitL s k n) st n n) (k : Int) = (if Wm.cntR st.testBit n < k then 9 else 0) ∧ (k ≤ Wm.cntR st.testBit n → strN (joinText (setP (splitL s k n) st n n) k) = s) := by
  have hu : ∀ j, j < n → usab (setP (splitL s k n) st n n) k j = st.testBit j := fun j hj => by
    unfold usab
    rw [setP_get _ _ hj]
    cases hb : st.testBit j with
    | true => rw [if_neg (by simp), (piece_parts hs h1 hkn hn hj).2.1]; rfl
    | false => rw [if_pos ⟨hj, rfl⟩, empty_bad h1 (by omega)]; rfl
  have h := join_true (L := setP (splitL s k n) st n n) hs h1 hkn hn (setP_length ..) (fun j hj hj2 => by
    rw [hu j hj] at hj2
    rw [setP_get _ _ hj, if_neg (by rw [hj2]; simp)])
  rw [cntR_congr n hu] at h
  exact h

theorem sum_ex : 4294967295 ^^^ crcS (sby ⟨#[49, 50, 51, 52, 53, 54, 55, 56, 57]⟩) (ByteArray.mk #[49, 50, 51, 52, 53, 54, 55, 56, 57]).size = 3808858755 := by decide +kernel
theorem split_ex : (splitL ⟨#[97, 98]⟩ 2 3).length = 3 ∧ ((splitL ⟨#[97, 98]⟩ 2 3).getD 0 ByteArray.empty).extract 0 2 = ⟨#[2, 97]⟩ ∧ ((splitL ⟨#[97, 98]⟩ 2 3).getD 1 ByteArray.empty).extract 0 2 = ⟨#[2, 98]⟩ := by
  refine ⟨splitL_length .., ?_, ?_⟩ <;> decide +kernel

end Go.Proofs.Ytheklkgilcdhoaa

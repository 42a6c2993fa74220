import Derived.Lib.ItoaNum
import Derived.Test.YtpenkbhljkmliaaGreatDoorDesk4
import Derived.Test.YtpenkbhljkmliaaGreatDoorShelfs13
import Derived.Test.YtpenkbhljkmliaaGreatDoorTri
import Derived.Test.YtpenkbhljkmliaaGreatDoorDeskB
import Derived.Shelf.GgClosure.Gives
/-
  Plain: an int's decimal numeral has at most 20 bytes.
-/
set_option linter.unusedVariables false
set_option linter.unusedSimpArgs false
namespace Wm
open Go.Lib
theorem nDig_le {n k : Nat} (h1 : 1 ≤ k) (h : n < 10 ^ k) : nDigits n ≤ k := by
  induction k generalizing n with
  | zero => omega
  | succ k ih =>
    by_cases hs : n < 10
    · rw [nDigits_small hs]; omega
    · rw [nDigits_big hs]
      by_cases hk : k = 0
      · subst hk; omega
      · have := ih (n := n / 10) (by omega) (by rw [Nat.pow_succ] at h; omega)
        omega
theorem ten19 {n : Nat} (h : n ≤ 9223372036854775808) : n < 10 ^ 19 := Nat.lt_of_le_of_lt h (by decide)
theorem itoa_len {n : Int} (h0 : -9223372036854775808 ≤ n) (h1 : n ≤ 9223372036854775807) : (itoa n).length ≤ 20 := by
  unfold itoa
  split
  · rw [List.length_cons, decDigits_length]
    have := nDig_le (n := n.natAbs) (k := 19) (by omega) (ten19 (by omega))
    omega
  · rw [decDigits_length]
    have := nDig_le (n := n.toNat) (k := 19) (by omega) (ten19 (by omega))
    omega
end Wm

/-
  The contract of desk.numbers.
-/
set_option linter.unusedVariables false
set_option linter.unusedSimpArgs false
namespace Go.Proofs.YtpenkbhljkmliaaGreatDoor
open Go.RowKit Go.BigFrame

def numsF (l : List Int) (k : Nat) : ByteArray := (l.take k).foldl (fun s n => s ++ (itoaB n ++ blank)) ByteArray.empty
theorem numsF_step {l : List Int} {k : Nat} (h : k < l.length) : numsF l (k + 1) = numsF l k ++ (itoaB (l.getD k 0) ++ blank) := by
  unfold numsF
  rw [List.take_succ_eq_append_getElem h, List.foldl_append]
  simp [List.getD_eq_getElem?_getD, h]
theorem numsF_size {l : List Int} (hl : ∀ x ∈ l, -9223372036854775808 ≤ x ∧ x ≤ 9223372036854775807) : ∀ k, k ≤ l.length → (numsF l k).size ≤ 21 * k
  | 0, _ => by simp [numsF]
  | k + 1, h => by
    rw [numsF_step (by omega), ByteArray.size_append, ByteArray.size_append]
    have h1 := numsF_size hl k (by omega)
    have hm : l.getD k 0 ∈ l := by
      rw [List.getD_eq_getElem?_getD, List.getElem?_eq_getElem (by omega)]
      exact List.getElem_mem _
    have h2 : (itoaB (l.getD k 0)).size ≤ 20 := by
      have := Wm.itoa_len (hl _ hm).1 (hl _ hm).2
      unfold itoaB
      show (List.toArray _).size ≤ 20
      simpa using this
    have h3 : blank.size = 1 := rfl
    omega

set_option maxRecDepth 100000 in
set_option maxHeartbeats 1000000 in
theorem numbers_ok (A : Option Addr) (m c : Nat) (l : List Int) (w : World) (R : Row w A m 1 (ints l)) (hm : m ≤ 1000) (hl : ∀ x ∈ l, -9223372036854775808 ≤ x ∧ x ≤ 9223372036854775807) (HT : Lib.TabIs Tryz.prog w "internal/strconv.uint64pow10" .u64 Lib.pow10Tab) :
    Calls Tryz.prog 32 #[.slice A m c] w fun e w' => e = .returned (.string (numsF l m ++ ⟨#[46]⟩)) ∧ Ext w w' := by
  have hlen := R.num
  have HR := hide R
  have HTT := hide HT
  have HM := hide (show ∀ k, k < m → -9223372036854775808 ≤ l.getD k 0 ∧ l.getD k 0 ≤ 9223372036854775807 from fun k hk => hl _ (by
    rw [List.getD_eq_getElem?_getD, List.getElem?_eq_getElem (by omega)]
    exact List.getElem_mem _))
  have HS := hide (show ∀ k, k < m → numsF l (k + 1) = numsF l k ++ (itoaB (l.getD k 0) ++ blank) from fun k hk => numsF_step (by omega))
  have HZ := hide (show ∀ k, k ≤ m → (numsF l k).size ≤ 21 * k from fun k hk => numsF_size hl k (by omega))
  have h0 : numsF l 0 = ByteArray.empty := rfl
  clear R HT hl hlen
  go_enter Tryz.func32, Tryz.ntmps32
  go_wp2
  go_loopw [3, 8] (fun a i wr => ∃ k : Nat, k ≤ m ∧ i = .int .i64 k ∧ a = .string (numsF l k) ∧ Hid (Ext w wr)) (fun _ i _ => m - (intOf i).toNat)
  case atStart => exact ⟨0, Nat.zero_le _, rfl, rfl, hide (Ext.refl _)⟩
  case round =>
    obtain ⟨k, hk, rfl, rfl, HX⟩ := hrel
    by_cases hlt : k < m
    · obtain ⟨b, o, rfl, hb, hc⟩ := ((unhide HR).keep (unhide HX)).int hlt
      have hx := unhide HM k hlt
      have HN := hide (unhide HS k hlt)
      have hz := unhide HZ k hk
      have hi : (itoaB (l.getD k 0)).size ≤ 20 := by
        have := Wm.itoa_len hx.1 hx.2
        unfold itoaB
        show (List.toArray _).size ≤ 20
        simpa using this
      have C1 : Hid (Calls Tryz.prog 18 #[.int .i64 (l.getD k 0)] wr fun e w' => e = .returned (.string (itoaB (l.getD k 0))) ∧ Ext wr w') := hide ((Tryz.strconv_Itoa _ hx.1 hx.2 wr (tab_ext (unhide HTT) (unhide HX))).mono (by
        rintro e w' ⟨rfl, q, os, rfl⟩
        exact ⟨rfl, below_grown wr q os⟩))
      generalize itoaB (l.getD k 0) = t at *
      generalize l.getD k 0 = x at *
      generalize numsF l k = s at *
      have hb1 : (t ++ blank).size = t.size + 1 := by rw [ByteArray.size_append]; rfl
      have n1 : ¬ 9223372036854775807 < t.size + ({ data := #[32] } : ByteArray).size := by show ¬ 9223372036854775807 < t.size + 1; omega
      have n2 : ¬ 9223372036854775807 < s.size + (t ++ { data := #[32] }).size := by show ¬ 9223372036854775807 < s.size + (t ++ blank).size; omega
      go_wp2_with fail
      refine (unhide C1).mono ?_
      rintro e w3 ⟨rfl, E3⟩
      have HX3 := hide ((unhide HX).trans E3)
      clear E3
      go_wp2
      go_roundw
      case rel => exact ⟨k + 1, by omega, by go_num, by rw [unhide HN]; rfl, HX3⟩
      case measure => simp [intOf]; omega
    · obtain rfl : k = m := by omega
      have HX3 := HX
      have hz := unhide HZ k hk
      obtain ⟨s, hs⟩ : ∃ s, s = numsF l k := ⟨_, rfl⟩
      rw [← hs] at hz ⊢
      have HSS := hide hs
      clear hs
      have n2 : ¬ 9223372036854775807 < s.size + ({ data := #[46] } : ByteArray).size := by show ¬ 9223372036854775807 < s.size + 1; omega
      go_wp2
      go_ret
      exact ⟨by first | rfl | (rw [← unhide HSS]; rfl), unhide HX3⟩
end Go.Proofs.YtpenkbhljkmliaaGreatDoor

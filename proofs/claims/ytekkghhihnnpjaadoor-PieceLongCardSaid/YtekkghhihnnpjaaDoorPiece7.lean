/-
  piece.Split at whatever it is given; the contract of piece.Check.
-/
import Derived.Test.YtekkghhihnnpjaaDoorPiece6
import Derived.Deep.RegionLaw
import Derived.Deep.RegionHeld3
set_option linter.unusedVariables false
set_option linter.unusedSimpArgs false
namespace Go.Proofs.YtekkghhihnnpjaaDoor
open Go.RowKit Go.BigFrame

theorem str_inj8 {a b : ByteArray} (h : a.toList = b.toList) : a = b := by
  rw [ByteArray.toList_eq, ByteArray.toList_eq] at h
  cases a; cases b
  simpa using h

set_option maxRecDepth 100000 in
set_option maxHeartbeats 4000000 in
/-- Why a string is not split. -/
def splErr (s : ByteArray) (k n : Int) : Int := if ¬ (1 ≤ k ∧ k ≤ n ∧ n ≤ 10) then 1 else if 60 < s.size then 2 else 0
set_option maxRecDepth 100000 in
theorem Split_bad (s : ByteArray) (k n : Int) (w : World) (hss : (s.size : Int) ≤ 9223372036854775807) (hb : splErr s k n ≠ 0) :
    Calls Tryd.prog 9 #[.string s, .int .i64 k, .int .i64 n] w fun e w' => e = .returned (.tuple #[.slice none 0 0, .int .i64 (splErr s k n)]) ∧ w' = w := by
  have CR := hide (right_any k n w)
  by_cases hr : 1 ≤ k ∧ k ≤ n ∧ n ≤ 10
  · have h2 : 60 < s.size := by
      unfold splErr at hb
      rw [if_neg (by simpa using hr)] at hb
      by_cases h : 60 < s.size
      · exact h
      · rw [if_neg h] at hb; exact absurd rfl hb
    rw [show decide (1 ≤ k ∧ k ≤ n ∧ n ≤ 10) = true from decide_eq_true hr] at CR
    have hE := hide (show splErr s k n = 2 from by unfold splErr; rw [if_neg (by simpa using hr), if_pos h2])
    have h2I : (60 : Int) < (s.size : Int) := by omega
    clear hb hr
    rw [unhide hE]
    go_enter Tryd.func9, Tryd.ntmps9
    go_wp2_with fail
    refine (unhide CR).mono ?_
    rintro e w1 ⟨rfl, rfl⟩
    go_wp2
    go_ret2
    exact ⟨rfl, rfl⟩
  · rw [show decide (1 ≤ k ∧ k ≤ n ∧ n ≤ 10) = false from decide_eq_false hr] at CR
    have hE : splErr s k n = 1 := by unfold splErr; rw [if_pos hr]
    rw [hE]
    clear hb hr hE
    go_enter Tryd.func9, Tryd.ntmps9
    go_wp2_with fail
    refine (unhide CR).mono ?_
    rintro e w1 ⟨rfl, rfl⟩
    go_wp2
    go_ret2
    exact ⟨rfl, rfl⟩

/-- What Split answers. -/
def SplitOut (s : ByteArray) (k n : Int) (w w' : World) (e : Ending) : Prop :=
  (splErr s k n ≠ 0 ∧ e = .returned (.tuple #[.slice none 0 0, .int .i64 (splErr s k n)])) ∨
  (splErr s k n = 0 ∧ ∃ (k' n' g : Nat), k = k' ∧ n = n' ∧ 1 ≤ k' ∧ k' ≤ n' ∧ n' ≤ 10 ∧ s.size ≤ 60 ∧ e = .returned (.tuple #[.slice (some ⟨g, 0, none⟩) n' n', .int .i64 0]) ∧ Made w' w.heap.size 9 1 (.slice (some ⟨g, 0, none⟩) n' n') n' (strs (splitL s k' n')))
theorem Split_any (s : ByteArray) (k n : Int) (w : World) (hss : (s.size : Int) ≤ 9223372036854775807) :
    Calls Tryd.prog 9 #[.string s, .int .i64 k, .int .i64 n] w fun e w' => SplitOut s k n w w' e ∧ Ext w w' := by
  by_cases hp : splErr s k n = 0
  · have hp' := hp
    unfold splErr at hp'
    by_cases hr : 1 ≤ k ∧ k ≤ n ∧ n ≤ 10
    · rw [if_neg (by simpa using hr)] at hp'
      by_cases h : 60 < s.size
      · rw [if_pos h] at hp'; omega
      · obtain ⟨k', rfl⟩ : ∃ k' : Nat, k = k' := ⟨k.toNat, by omega⟩
        obtain ⟨n', rfl⟩ : ∃ n' : Nat, n = n' := ⟨n.toNat, by omega⟩
        refine (Split_ok s k' n' w (by omega) (by omega) (by omega) (by omega)).mono ?_
        rintro e w' ⟨⟨g, he, M⟩, E⟩
        exact ⟨.inr ⟨hp, k', n', g, rfl, rfl, by omega, by omega, by omega, by omega, he, M⟩, E⟩
    · rw [if_pos hr] at hp'; omega
  · refine (Split_bad s k n w hss hp).mono ?_
    rintro e w' ⟨he, rfl⟩
    exact ⟨.inl ⟨hp, he⟩, Ext.refl _⟩

theorem sby_extract (s : ByteArray) (a b k : Nat) (hb : b ≤ s.size) (h : a + k < b) : sby (s.extract a b) k = sby s (a + k) := by
  unfold sby
  rw [Array.getD_eq_getD_getElem?, Array.getD_eq_getD_getElem?]
  have : (s.extract a b).data = s.data.extract a b := ByteArray.data_extract
  rw [this, Array.getElem?_extract, if_pos (by have : s.data.size = s.size := rfl; omega)]
theorem last_iff (s : ByteArray) (h : 5 ≤ s.size) : (s.extract (s.size - 4) s.size = strN (le4 (sumS (sby s) (s.size - 4)))) ↔ sumOk s := by
  have hl : (le4 (sumS (sby s) (s.size - 4))).length = 4 := rfl
  have hsz : (s.extract (s.size - 4) s.size).size = 4 := by rw [ByteArray.size_extract]; omega
  constructor
  · intro e t ht
    rw [← sby_strN _ (le4_lt _) (by rw [hl]; exact ht), ← e, sby_extract s _ _ _ (Nat.le_refl _) (by omega)]
  · intro hs
    refine str_ext (by rw [hsz, strN_size]; rfl) fun t ht => ?_
    rw [hsz] at ht
    rw [sby_extract s _ _ _ (Nat.le_refl _) (by omega), hs t ht, sby_strN _ (le4_lt _) (by rw [hl]; exact ht)]

end Go.Proofs.YtekkghhihnnpjaaDoor

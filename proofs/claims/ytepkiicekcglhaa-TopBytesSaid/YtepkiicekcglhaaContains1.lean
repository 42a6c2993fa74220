/-
  strings.Contains of one byte: no such byte, not contained.
-/
import Derived.Test.YtepkiicekcglhaaShelfs15
import Derived.Test.YtepkiicekcglhaaBase
import Derived.Lib.IndexLaws
set_option linter.unusedVariables false
set_option linter.unusedSimpArgs false
namespace Go.Proofs.Ytepkiicekcglhaa
open Go.RowKit

theorem no_byte {l : List UInt8} {c : UInt8} (h : c ∉ l) : decide (0 ≤ Lib.indexByte l c) = false := by
  rw [decide_eq_false_iff_not]
  intro h0
  obtain ⟨o, ho⟩ := Int.eq_ofNat_of_zero_le h0
  have := (Lib.indexByte_some ho).1
  exact h (List.mem_of_getElem? this)
theorem contains_no (s : ByteArray) (c : UInt8) (h : c ∉ s.data.toList) (w : World) :
    Calls Try.prog 19 #[.string s, .string ⟨#[c]⟩] w fun e w' => e = .returned (.bool false) ∧ w' = w := by
  have C := Try.strings_Contains_one s c w
  rw [no_byte h] at C
  exact C
end Go.Proofs.Ytepkiicekcglhaa

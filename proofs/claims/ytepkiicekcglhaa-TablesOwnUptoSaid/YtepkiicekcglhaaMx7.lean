/-
  The contract of the laws' turned.
-/
import Derived.Test.YtepkiicekcglhaaMxTimesW
set_option linter.unusedVariables false
set_option linter.unusedSimpArgs false
namespace Go.Proofs.Ytepkiicekcglhaa
open Go.RowKit Go.BigFrame Wm.Fld

def trN (M : Nat → Nat → Nat) : Nat → Nat → Nat := fun i j => M j i
theorem m8m_tr (M : Nat → Nat → Nat) : Wm.m8m (trN M) = tr (Wm.m8m M) := rfl
end Go.Proofs.Ytepkiicekcglhaa

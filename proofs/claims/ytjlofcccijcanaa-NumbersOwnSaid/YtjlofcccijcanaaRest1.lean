/-
  The contracts of package rest, and of the functions of package euclid under it.
-/
import Derived.Test.YtjlofcccijcanaaEuclid1
import Derived.Test.YtjlofcccijcanaaArith1
import Derived.Test.YtjlofcccijcanaaRest0
set_option linter.unusedVariables false
set_option linter.unusedSimpArgs false
namespace Go.Proofs.Ytjlofcccijcanaa
open Go.RowKit




end Go.Proofs.Ytjlofcccijcanaa

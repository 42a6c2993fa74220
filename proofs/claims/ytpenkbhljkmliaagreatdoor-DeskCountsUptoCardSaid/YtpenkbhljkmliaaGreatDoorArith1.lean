/-
  The contracts of Within, small, good and their kin: remainders, and whether a list of errors is all right.
-/
import Derived.Test.YtpenkbhljkmliaaGreatDoorTri
import Derived.Test.YtpenkbhljkmliaaGreatDoorArith0
set_option linter.unusedVariables false
set_option linter.unusedSimpArgs false
namespace Go.Proofs.YtpenkbhljkmliaaGreatDoor
open Go.RowKit



end Go.Proofs.YtpenkbhljkmliaaGreatDoor

/-
  The contract of frac.Value.
-/
import Derived.Test.YtdcpijodoppncaaBackIt
import Derived.Test.YtdcpijodoppncaaFrac0
import Derived.Test.YtdcpijodoppncaaMem
import Derived.RangeFuncBox
set_option linter.unusedVariables false
set_option linter.unusedSimpArgs false
namespace Go.Proofs.Ytdcpijodoppncaa
open Go.RowKit Go.Shelf
attribute [local go_sem] Oper.semAt_some

theorem num_eqI {K : IntKind} {a b : Int} (h : a = b) : Value.int K a = Value.int K b := by rw [h]
end Go.Proofs.Ytdcpijodoppncaa

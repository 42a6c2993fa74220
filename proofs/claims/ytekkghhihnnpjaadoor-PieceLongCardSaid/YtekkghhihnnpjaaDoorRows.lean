/-
  NARROWER THAN 'FOR EVERY INPUT', by the rows' own cells (each row's printed sentence says how): PieceLong: laid · CyclicSums: laid · CyclicBurst: laid · CyclicBack: laid · CyclicOdd: laid.
  DERIVED. THE GIVEN ROWS OF THIS SEAT. 5 by the template 'for every input the law returns true; each argument reads behind the call as it read before'; 0 by the template 'total and deterministic' (their statements: YtekkghhihnnpjaaDoorTotals.lean).
  GIVEN WITH THE SEED: the statements are not yours to turn. If you find one false, say at which input.
  Laid BY PROGRAM, IN A SANDBOX (cutbox-rows.mjs): the forced cells as the released guide's own fill.sh prints them over the translation b5ac51b0ce191bd2… (all of the seat's roots in one cut). By AI agents, Wed Nov 11 2026. No macro, syntax, notation, axiom, sorry.
-/
import Derived.Test.YtekkghhihnnpjaaDoorChecked
import GoSem.PinnedTables
import GoSem.Claim
import GoSem.ClaimJoined
import GoSem.ClaimMapViews
import Derived.JoinedTies
import Derived.KernelRfl
namespace Go.Proofs.YtekkghhihnnpjaaDoor
/- THE CELL 'sum', in the pinned program and in every row, IS THE sha256 OF THE DUMP (.gsa) THAT YtekkghhihnnpjaaDoorProg.lean LOADS. Nothing in Lean hashes anything: it is a label: what it is worth is what the hold of that sum in a sandbox is worth. -/
noncomputable def Tryd.pinned : Pinned := { name := "ytekkghhihnnpjaadoor", sum := "b5ac51b0ce191bd2f6e0ddea51e526a2380185c32598a838f8318adb91d850a3", checked := Tryd.checked }
namespace Rows
def none {H : Type} : Left H := { results := [], args := [] }

/- WHAT THE LISTED PACKAGE-LEVEL VARIABLES READ AS WHEN THE CALL BEGINS. Each datum BY PROGRAM (the guide's laid-datum.mjs) off the statement by which the dump's own 'gosem.cut.vars' lays the variable. In a bare row this is a premise. The card (YtekkghhihnnpjaaDoorCards.lean) ties it to the program's text. -/
def laid_unicode_utf8_acceptRanges {H : Type} : DataW H := .agg [.agg [.lit (.int .u8 128), .lit (.int .u8 191)], .agg [.lit (.int .u8 160), .lit (.int .u8 191)], .agg [.lit (.int .u8 128), .lit (.int .u8 159)], .agg [.lit (.int .u8 144), .lit (.int .u8 191)], .agg [.lit (.int .u8 128), .lit (.int .u8 143)], .agg [.lit (.int .u8 0), .lit (.int .u8 0)], .agg [.lit (.int .u8 0), .lit (.int .u8 0)], .agg [.lit (.int .u8 0), .lit (.int .u8 0)], .agg [.lit (.int .u8 0), .lit (.int .u8 0)], .agg [.lit (.int .u8 0), .lit (.int .u8 0)], .agg [.lit (.int .u8 0), .lit (.int .u8 0)], .agg [.lit (.int .u8 0), .lit (.int .u8 0)], .agg [.lit (.int .u8 0), .lit (.int .u8 0)], .agg [.lit (.int .u8 0), .lit (.int .u8 0)], .agg [.lit (.int .u8 0), .lit (.int .u8 0)], .agg [.lit (.int .u8 0), .lit (.int .u8 0)]]
/-- One of Go's own tables, pinned by name: the form's constant. -/
def laid_unicode_utf8_first : DataW Unit := Go.Pinned.utf8First

/-- 'wholekeep.PieceLong': WHATEVER THE INPUT: true; the input reads as it did. -/
def pieceLongSpec : ChangeSpec := { name := "pieceLong", fn := fun _ => fun
  | [d1, d2, d3] => { results := [.lit (.bool true)], args := [d1, d2, d3] }
  | _ => none }
def pieceLongRow : OpenClaim := { program := "ytekkghhihnnpjaadoor", sum := "b5ac51b0ce191bd2f6e0ddea51e526a2380185c32598a838f8318adb91d850a3", func := "wholemend/wholekeep.PieceLong", spec := "pieceLong", inPlace := ["internal/bytealg.IndexByteString", "internal/bytealg.IndexString"], named := ["unicode/utf8.first", "unicode/utf8.acceptRanges", "internal/bytealg.MaxLen"], apart := false, laid := [("unicode/utf8.acceptRanges", laid_unicode_utf8_acceptRanges), ("unicode/utf8.first", laid_unicode_utf8_first)] }
def PieceLongSaid : Prop := pieceLongRow.holds Tryd.pinned (OpenSpec.ofChange pieceLongSpec)

/-- ITS FALSE NEIGHBOUR: 'it returns false'. Refute it at one input. -/
def pieceLongWrong : ChangeSpec := { name := "pieceLong", fn := fun _ => fun
  | [d1, d2, d3] => { results := [.lit (.bool false)], args := [d1, d2, d3] }
  | _ => none }
def PieceLongWrongFalsely : Prop := pieceLongRow.holds Tryd.pinned (OpenSpec.ofChange pieceLongWrong)

/-- 'wholekeep.CyclicSums': WHATEVER THE INPUT: true; the input reads as it did. -/
def cyclicSumsSpec : ChangeSpec := { name := "cyclicSums", fn := fun _ => fun
  | [d1, d2, d3] => { results := [.lit (.bool true)], args := [d1, d2, d3] }
  | _ => none }
def cyclicSumsRow : OpenClaim := { program := "ytekkghhihnnpjaadoor", sum := "b5ac51b0ce191bd2f6e0ddea51e526a2380185c32598a838f8318adb91d850a3", func := "wholemend/wholekeep.CyclicSums", spec := "cyclicSums", inPlace := ["internal/bytealg.IndexByteString", "internal/bytealg.IndexString", "internal/abi.NoEscape", "internal/bytealg.MakeNoZero"], unfollowed := true, recurses := true, named := ["unicode/utf8.first", "unicode/utf8.acceptRanges", "internal/bytealg.MaxLen"], apart := false, laid := [("unicode/utf8.acceptRanges", laid_unicode_utf8_acceptRanges), ("unicode/utf8.first", laid_unicode_utf8_first)] }
def CyclicSumsSaid : Prop := cyclicSumsRow.holds Tryd.pinned (OpenSpec.ofChange cyclicSumsSpec)

/-- ITS FALSE NEIGHBOUR: 'it returns false'. Refute it at one input. -/
def cyclicSumsWrong : ChangeSpec := { name := "cyclicSums", fn := fun _ => fun
  | [d1, d2, d3] => { results := [.lit (.bool false)], args := [d1, d2, d3] }
  | _ => none }
def CyclicSumsWrongFalsely : Prop := cyclicSumsRow.holds Tryd.pinned (OpenSpec.ofChange cyclicSumsWrong)

/-- 'wholekeep.CyclicBurst': WHATEVER THE INPUT: true; the input reads as it did. -/
def cyclicBurstSpec : ChangeSpec := { name := "cyclicBurst", fn := fun _ => fun
  | [d1, d2, d3, d4] => { results := [.lit (.bool true)], args := [d1, d2, d3, d4] }
  | _ => none }
def cyclicBurstRow : OpenClaim := { program := "ytekkghhihnnpjaadoor", sum := "b5ac51b0ce191bd2f6e0ddea51e526a2380185c32598a838f8318adb91d850a3", func := "wholemend/wholekeep.CyclicBurst", spec := "cyclicBurst", inPlace := ["internal/bytealg.IndexByteString", "internal/bytealg.IndexString", "internal/abi.NoEscape", "internal/bytealg.MakeNoZero"], named := ["unicode/utf8.first", "unicode/utf8.acceptRanges", "internal/bytealg.MaxLen"], apart := false, laid := [("unicode/utf8.acceptRanges", laid_unicode_utf8_acceptRanges), ("unicode/utf8.first", laid_unicode_utf8_first)] }
def CyclicBurstSaid : Prop := cyclicBurstRow.holds Tryd.pinned (OpenSpec.ofChange cyclicBurstSpec)

/-- ITS FALSE NEIGHBOUR: 'it returns false'. Refute it at one input. -/
def cyclicBurstWrong : ChangeSpec := { name := "cyclicBurst", fn := fun _ => fun
  | [d1, d2, d3, d4] => { results := [.lit (.bool false)], args := [d1, d2, d3, d4] }
  | _ => none }
def CyclicBurstWrongFalsely : Prop := cyclicBurstRow.holds Tryd.pinned (OpenSpec.ofChange cyclicBurstWrong)

/-- 'wholekeep.CyclicBack': WHATEVER THE INPUT: true; the input reads as it did. -/
def cyclicBackSpec : ChangeSpec := { name := "cyclicBack", fn := fun _ => fun
  | [d1, d2] => { results := [.lit (.bool true)], args := [d1, d2] }
  | _ => none }
def cyclicBackRow : OpenClaim := { program := "ytekkghhihnnpjaadoor", sum := "b5ac51b0ce191bd2f6e0ddea51e526a2380185c32598a838f8318adb91d850a3", func := "wholemend/wholekeep.CyclicBack", spec := "cyclicBack", inPlace := ["internal/bytealg.IndexByteString", "internal/bytealg.IndexString", "internal/abi.NoEscape", "internal/bytealg.MakeNoZero"], unfollowed := true, recurses := true, named := ["unicode/utf8.first", "unicode/utf8.acceptRanges", "internal/bytealg.MaxLen"], apart := false, laid := [("unicode/utf8.acceptRanges", laid_unicode_utf8_acceptRanges), ("unicode/utf8.first", laid_unicode_utf8_first)] }
def CyclicBackSaid : Prop := cyclicBackRow.holds Tryd.pinned (OpenSpec.ofChange cyclicBackSpec)

/-- ITS FALSE NEIGHBOUR: 'it returns false'. Refute it at one input. -/
def cyclicBackWrong : ChangeSpec := { name := "cyclicBack", fn := fun _ => fun
  | [d1, d2] => { results := [.lit (.bool false)], args := [d1, d2] }
  | _ => none }
def CyclicBackWrongFalsely : Prop := cyclicBackRow.holds Tryd.pinned (OpenSpec.ofChange cyclicBackWrong)

/-- 'wholekeep.CyclicOdd': WHATEVER THE INPUT: true; the input reads as it did. -/
def cyclicOddSpec : ChangeSpec := { name := "cyclicOdd", fn := fun _ => fun
  | [d1, d2, d3] => { results := [.lit (.bool true)], args := [d1, d2, d3] }
  | _ => none }
def cyclicOddRow : OpenClaim := { program := "ytekkghhihnnpjaadoor", sum := "b5ac51b0ce191bd2f6e0ddea51e526a2380185c32598a838f8318adb91d850a3", func := "wholemend/wholekeep.CyclicOdd", spec := "cyclicOdd", inPlace := ["internal/bytealg.IndexByteString", "internal/bytealg.IndexString", "internal/abi.NoEscape", "internal/bytealg.MakeNoZero", "internal/bytealg.CountString"], named := ["unicode/utf8.first", "unicode/utf8.acceptRanges", "internal/bytealg.MaxLen"], apart := false, laid := [("unicode/utf8.acceptRanges", laid_unicode_utf8_acceptRanges), ("unicode/utf8.first", laid_unicode_utf8_first)] }
def CyclicOddSaid : Prop := cyclicOddRow.holds Tryd.pinned (OpenSpec.ofChange cyclicOddSpec)

/-- ITS FALSE NEIGHBOUR: 'it returns false'. Refute it at one input. -/
def cyclicOddWrong : ChangeSpec := { name := "cyclicOdd", fn := fun _ => fun
  | [d1, d2, d3] => { results := [.lit (.bool false)], args := [d1, d2, d3] }
  | _ => none }
def CyclicOddWrongFalsely : Prop := cyclicOddRow.holds Tryd.pinned (OpenSpec.ofChange cyclicOddWrong)

/- THE SECOND FORM. 'bulk': how many values and letters a reading holds, each counted each time it is reached (what is shared counts as often as it is met; a slice's spare places count too). A statement '..UptoSaid' is the law's where the arguments, and the package variables that the reading takes, are together of bulk at most 1048576: NARROWER than '..Said'. Prove '..Said' where nothing that the law and all that it calls make is longer than what came in: it says more and counts as full. Else prove '..UptoSaid'. A law counts once. -/
mutual
def uptoBulk {H : Type} : DataW H → Nat
  | .lit (.string bytes) => bytes.length + 1
  | .lit _ => 1
  | .nil => 1
  | .ptr d => uptoBulk d + 1
  | .slice elems spare => uptoBulkAll elems + uptoBulkAll spare + 1
  | .agg parts => uptoBulkAll parts + 1
  | .iface _ d => uptoBulk d + 1
  | .map entries => uptoBulkEntries entries + 1
  | .held _ => 1
def uptoBulkAll {H : Type} : List (DataW H) → Nat
  | [] => 0
  | d :: r => uptoBulk d + uptoBulkAll r
def uptoBulkEntries {H : Type} : List (Lit × DataW H) → Nat
  | [] => 0
  | x :: r => uptoBulkEntry x + uptoBulkEntries r
def uptoBulkEntry {H : Type} : Lit × DataW H → Nat
  | (.string bytes, d) => bytes.length + uptoBulk d + 1
  | (_, d) => uptoBulk d + 1
 end
def uptoSmall : (H : Type) → List (DataW H) → Bool := fun _ ds => decide (uptoBulkAll ds ≤ 1048576)
def OpenSpec.upto (s : _root_.Go.ChangeSpec) : _root_.Go.OpenSpec := { _root_.Go.OpenSpec.ofChange s with cond := some uptoSmall }

/-- 'wholekeep.PieceLong', WHERE WHAT IT READS IS OF BULK AT MOST 1048576: true; the input reads as it did. -/
def pieceLongUptoRow : OpenClaim := { program := "ytekkghhihnnpjaadoor", sum := "b5ac51b0ce191bd2f6e0ddea51e526a2380185c32598a838f8318adb91d850a3", func := "wholemend/wholekeep.PieceLong", spec := "pieceLong", inPlace := ["internal/bytealg.IndexByteString", "internal/bytealg.IndexString"], named := ["unicode/utf8.first", "unicode/utf8.acceptRanges", "internal/bytealg.MaxLen"], apart := false, laid := [("unicode/utf8.acceptRanges", laid_unicode_utf8_acceptRanges), ("unicode/utf8.first", laid_unicode_utf8_first)], narrowed := true }
def PieceLongUptoSaid : Prop := pieceLongUptoRow.holds Tryd.pinned (OpenSpec.upto pieceLongSpec)

/-- 'wholekeep.CyclicSums', WHERE WHAT IT READS IS OF BULK AT MOST 1048576: true; the input reads as it did. -/
def cyclicSumsUptoRow : OpenClaim := { program := "ytekkghhihnnpjaadoor", sum := "b5ac51b0ce191bd2f6e0ddea51e526a2380185c32598a838f8318adb91d850a3", func := "wholemend/wholekeep.CyclicSums", spec := "cyclicSums", inPlace := ["internal/bytealg.IndexByteString", "internal/bytealg.IndexString", "internal/abi.NoEscape", "internal/bytealg.MakeNoZero"], unfollowed := true, recurses := true, named := ["unicode/utf8.first", "unicode/utf8.acceptRanges", "internal/bytealg.MaxLen"], apart := false, laid := [("unicode/utf8.acceptRanges", laid_unicode_utf8_acceptRanges), ("unicode/utf8.first", laid_unicode_utf8_first)], narrowed := true }
def CyclicSumsUptoSaid : Prop := cyclicSumsUptoRow.holds Tryd.pinned (OpenSpec.upto cyclicSumsSpec)

/-- 'wholekeep.CyclicBurst', WHERE WHAT IT READS IS OF BULK AT MOST 1048576: true; the input reads as it did. -/
def cyclicBurstUptoRow : OpenClaim := { program := "ytekkghhihnnpjaadoor", sum := "b5ac51b0ce191bd2f6e0ddea51e526a2380185c32598a838f8318adb91d850a3", func := "wholemend/wholekeep.CyclicBurst", spec := "cyclicBurst", inPlace := ["internal/bytealg.IndexByteString", "internal/bytealg.IndexString", "internal/abi.NoEscape", "internal/bytealg.MakeNoZero"], named := ["unicode/utf8.first", "unicode/utf8.acceptRanges", "internal/bytealg.MaxLen"], apart := false, laid := [("unicode/utf8.acceptRanges", laid_unicode_utf8_acceptRanges), ("unicode/utf8.first", laid_unicode_utf8_first)], narrowed := true }
def CyclicBurstUptoSaid : Prop := cyclicBurstUptoRow.holds Tryd.pinned (OpenSpec.upto cyclicBurstSpec)

/-- 'wholekeep.CyclicBack', WHERE WHAT IT READS IS OF BULK AT MOST 1048576: true; the input reads as it did. -/
def cyclicBackUptoRow : OpenClaim := { program := "ytekkghhihnnpjaadoor", sum := "b5ac51b0ce191bd2f6e0ddea51e526a2380185c32598a838f8318adb91d850a3", func := "wholemend/wholekeep.CyclicBack", spec := "cyclicBack", inPlace := ["internal/bytealg.IndexByteString", "internal/bytealg.IndexString", "internal/abi.NoEscape", "internal/bytealg.MakeNoZero"], unfollowed := true, recurses := true, named := ["unicode/utf8.first", "unicode/utf8.acceptRanges", "internal/bytealg.MaxLen"], apart := false, laid := [("unicode/utf8.acceptRanges", laid_unicode_utf8_acceptRanges), ("unicode/utf8.first", laid_unicode_utf8_first)], narrowed := true }
def CyclicBackUptoSaid : Prop := cyclicBackUptoRow.holds Tryd.pinned (OpenSpec.upto cyclicBackSpec)

/-- 'wholekeep.CyclicOdd', WHERE WHAT IT READS IS OF BULK AT MOST 1048576: true; the input reads as it did. -/
def cyclicOddUptoRow : OpenClaim := { program := "ytekkghhihnnpjaadoor", sum := "b5ac51b0ce191bd2f6e0ddea51e526a2380185c32598a838f8318adb91d850a3", func := "wholemend/wholekeep.CyclicOdd", spec := "cyclicOdd", inPlace := ["internal/bytealg.IndexByteString", "internal/bytealg.IndexString", "internal/abi.NoEscape", "internal/bytealg.MakeNoZero", "internal/bytealg.CountString"], named := ["unicode/utf8.first", "unicode/utf8.acceptRanges", "internal/bytealg.MaxLen"], apart := false, laid := [("unicode/utf8.acceptRanges", laid_unicode_utf8_acceptRanges), ("unicode/utf8.first", laid_unicode_utf8_first)], narrowed := true }
def CyclicOddUptoSaid : Prop := cyclicOddUptoRow.holds Tryd.pinned (OpenSpec.upto cyclicOddSpec)

end Rows
end Go.Proofs.YtekkghhihnnpjaaDoor

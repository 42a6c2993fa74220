/-
  No cell of these rows narrows 'for every input' (looked for: loops, veiled, ifaces, maps, wideKeys, modest, calm, conditions, laid).
  DERIVED. THE GIVEN ROWS OF THIS SEAT. 10 by the template 'for every input the law returns true; each argument reads behind the call as it read before'; 0 by the template 'total and deterministic' (their statements: YtifkphlbjjdigaaTotals.lean).
  GIVEN WITH THE SEED: the statements are not yours to turn. If you find one false, say at which input.
  Laid BY PROGRAM, IN A SANDBOX (cutbox-rows.mjs): the forced cells as the released guide's own fill.sh prints them over the translation f8a2ae202eb62cd5… (all of the seat's roots in one cut). By AI agents, Wed Nov 11 2026. No macro, syntax, notation, axiom, sorry.
-/
import Derived.Test.YtifkphlbjjdigaaChecked
import GoSem.Claim
import GoSem.ClaimJoined
import GoSem.ClaimMapViews
import Derived.JoinedTies
import Derived.KernelRfl
namespace Go.Proofs.Ytifkphlbjjdigaa
/- THE CELL 'sum', in the pinned program and in every row, IS THE sha256 OF THE DUMP (.gsa) THAT YtifkphlbjjdigaaProg.lean LOADS. Nothing in Lean hashes anything: it is a label: what it is worth is what the hold of that sum in a sandbox is worth. -/
noncomputable def Try.pinned : Pinned := { name := "ytifkphlbjjdigaa", sum := "f8a2ae202eb62cd5520f71f1021d06b45a6c7f8a355ff93ec6852ea97f8e4df8", checked := Try.checked }
namespace Rows
def none {H : Type} : Left H := { results := [], args := [] }

/-- 'wholekeep.MatrixTimes': WHATEVER THE INPUT: true; the input reads as it did. -/
def matrixTimesSpec : ChangeSpec := { name := "matrixTimes", fn := fun _ => fun
  | [d1, d2, d3] => { results := [.lit (.bool true)], args := [d1, d2, d3] }
  | _ => none }
def matrixTimesRow : OpenClaim := { program := "ytifkphlbjjdigaa", sum := "f8a2ae202eb62cd5520f71f1021d06b45a6c7f8a355ff93ec6852ea97f8e4df8", func := "wholemend/wholekeep.MatrixTimes", spec := "matrixTimes", unfollowed := true, recurses := true, apart := false }
def MatrixTimesSaid : Prop := matrixTimesRow.holds Try.pinned (OpenSpec.ofChange matrixTimesSpec)

/-- ITS FALSE NEIGHBOUR: 'it returns false'. Refute it at one input. -/
def matrixTimesWrong : ChangeSpec := { name := "matrixTimes", fn := fun _ => fun
  | [d1, d2, d3] => { results := [.lit (.bool false)], args := [d1, d2, d3] }
  | _ => none }
def MatrixTimesWrongFalsely : Prop := matrixTimesRow.holds Try.pinned (OpenSpec.ofChange matrixTimesWrong)

/-- 'wholekeep.MatrixBinet': WHATEVER THE INPUT: true; the input reads as it did. -/
def matrixBinetSpec : ChangeSpec := { name := "matrixBinet", fn := fun _ => fun
  | [d1, d2] => { results := [.lit (.bool true)], args := [d1, d2] }
  | _ => none }
def matrixBinetRow : OpenClaim := { program := "ytifkphlbjjdigaa", sum := "f8a2ae202eb62cd5520f71f1021d06b45a6c7f8a355ff93ec6852ea97f8e4df8", func := "wholemend/wholekeep.MatrixBinet", spec := "matrixBinet", unfollowed := true, recurses := true, apart := false }
def MatrixBinetSaid : Prop := matrixBinetRow.holds Try.pinned (OpenSpec.ofChange matrixBinetSpec)

/-- ITS FALSE NEIGHBOUR: 'it returns false'. Refute it at one input. -/
def matrixBinetWrong : ChangeSpec := { name := "matrixBinet", fn := fun _ => fun
  | [d1, d2] => { results := [.lit (.bool false)], args := [d1, d2] }
  | _ => none }
def MatrixBinetWrongFalsely : Prop := matrixBinetRow.holds Try.pinned (OpenSpec.ofChange matrixBinetWrong)

/-- 'wholekeep.MatrixRanks': WHATEVER THE INPUT: true; the input reads as it did. -/
def matrixRanksSpec : ChangeSpec := { name := "matrixRanks", fn := fun _ => fun
  | [d1, d2] => { results := [.lit (.bool true)], args := [d1, d2] }
  | _ => none }
def matrixRanksRow : OpenClaim := { program := "ytifkphlbjjdigaa", sum := "f8a2ae202eb62cd5520f71f1021d06b45a6c7f8a355ff93ec6852ea97f8e4df8", func := "wholemend/wholekeep.MatrixRanks", spec := "matrixRanks", unfollowed := true, recurses := true, apart := false }
def MatrixRanksSaid : Prop := matrixRanksRow.holds Try.pinned (OpenSpec.ofChange matrixRanksSpec)

/-- ITS FALSE NEIGHBOUR: 'it returns false'. Refute it at one input. -/
def matrixRanksWrong : ChangeSpec := { name := "matrixRanks", fn := fun _ => fun
  | [d1, d2] => { results := [.lit (.bool false)], args := [d1, d2] }
  | _ => none }
def MatrixRanksWrongFalsely : Prop := matrixRanksRow.holds Try.pinned (OpenSpec.ofChange matrixRanksWrong)

/-- 'wholekeep.MatrixCapelli': WHATEVER THE INPUT: true; the input reads as it did. -/
def matrixCapelliSpec : ChangeSpec := { name := "matrixCapelli", fn := fun _ => fun
  | [d1, d2] => { results := [.lit (.bool true)], args := [d1, d2] }
  | _ => none }
def matrixCapelliRow : OpenClaim := { program := "ytifkphlbjjdigaa", sum := "f8a2ae202eb62cd5520f71f1021d06b45a6c7f8a355ff93ec6852ea97f8e4df8", func := "wholemend/wholekeep.MatrixCapelli", spec := "matrixCapelli", unfollowed := true, recurses := true, apart := false }
def MatrixCapelliSaid : Prop := matrixCapelliRow.holds Try.pinned (OpenSpec.ofChange matrixCapelliSpec)

/-- ITS FALSE NEIGHBOUR: 'it returns false'. Refute it at one input. -/
def matrixCapelliWrong : ChangeSpec := { name := "matrixCapelli", fn := fun _ => fun
  | [d1, d2] => { results := [.lit (.bool false)], args := [d1, d2] }
  | _ => none }
def MatrixCapelliWrongFalsely : Prop := matrixCapelliRow.holds Try.pinned (OpenSpec.ofChange matrixCapelliWrong)

/-- 'wholekeep.MatrixUndone': WHATEVER THE INPUT: true; the input reads as it did. -/
def matrixUndoneSpec : ChangeSpec := { name := "matrixUndone", fn := fun _ => fun
  | [d1, d2] => { results := [.lit (.bool true)], args := [d1, d2] }
  | _ => none }
def matrixUndoneRow : OpenClaim := { program := "ytifkphlbjjdigaa", sum := "f8a2ae202eb62cd5520f71f1021d06b45a6c7f8a355ff93ec6852ea97f8e4df8", func := "wholemend/wholekeep.MatrixUndone", spec := "matrixUndone", unfollowed := true, recurses := true, apart := false }
def MatrixUndoneSaid : Prop := matrixUndoneRow.holds Try.pinned (OpenSpec.ofChange matrixUndoneSpec)

/-- ITS FALSE NEIGHBOUR: 'it returns false'. Refute it at one input. -/
def matrixUndoneWrong : ChangeSpec := { name := "matrixUndone", fn := fun _ => fun
  | [d1, d2] => { results := [.lit (.bool false)], args := [d1, d2] }
  | _ => none }
def MatrixUndoneWrongFalsely : Prop := matrixUndoneRow.holds Try.pinned (OpenSpec.ofChange matrixUndoneWrong)

/-- 'wholekeep.GridValues': WHATEVER THE INPUT: true; the input reads as it did. -/
def gridValuesSpec : ChangeSpec := { name := "gridValues", fn := fun _ => fun
  | [d1, d2] => { results := [.lit (.bool true)], args := [d1, d2] }
  | _ => none }
def gridValuesRow : OpenClaim := { program := "ytifkphlbjjdigaa", sum := "f8a2ae202eb62cd5520f71f1021d06b45a6c7f8a355ff93ec6852ea97f8e4df8", func := "wholemend/wholekeep.GridValues", spec := "gridValues", unfollowed := true, recurses := true, apart := false }
def GridValuesSaid : Prop := gridValuesRow.holds Try.pinned (OpenSpec.ofChange gridValuesSpec)

/-- ITS FALSE NEIGHBOUR: 'it returns false'. Refute it at one input. -/
def gridValuesWrong : ChangeSpec := { name := "gridValues", fn := fun _ => fun
  | [d1, d2] => { results := [.lit (.bool false)], args := [d1, d2] }
  | _ => none }
def GridValuesWrongFalsely : Prop := gridValuesRow.holds Try.pinned (OpenSpec.ofChange gridValuesWrong)

/-- 'wholekeep.GridVander': WHATEVER THE INPUT: true; the input reads as it did. -/
def gridVanderSpec : ChangeSpec := { name := "gridVander", fn := fun _ => fun
  | [d] => { results := [.lit (.bool true)], args := [d] }
  | _ => none }
def gridVanderRow : OpenClaim := { program := "ytifkphlbjjdigaa", sum := "f8a2ae202eb62cd5520f71f1021d06b45a6c7f8a355ff93ec6852ea97f8e4df8", func := "wholemend/wholekeep.GridVander", spec := "gridVander", unfollowed := true, recurses := true, apart := false }
def GridVanderSaid : Prop := gridVanderRow.holds Try.pinned (OpenSpec.ofChange gridVanderSpec)

/-- ITS FALSE NEIGHBOUR: 'it returns false'. Refute it at one input. -/
def gridVanderWrong : ChangeSpec := { name := "gridVander", fn := fun _ => fun
  | [d] => { results := [.lit (.bool false)], args := [d] }
  | _ => none }
def GridVanderWrongFalsely : Prop := gridVanderRow.holds Try.pinned (OpenSpec.ofChange gridVanderWrong)

/-- 'wholekeep.GridCauchy': WHATEVER THE INPUT: true; the input reads as it did. -/
def gridCauchySpec : ChangeSpec := { name := "gridCauchy", fn := fun _ => fun
  | [d1, d2, d3, d4] => { results := [.lit (.bool true)], args := [d1, d2, d3, d4] }
  | _ => none }
def gridCauchyRow : OpenClaim := { program := "ytifkphlbjjdigaa", sum := "f8a2ae202eb62cd5520f71f1021d06b45a6c7f8a355ff93ec6852ea97f8e4df8", func := "wholemend/wholekeep.GridCauchy", spec := "gridCauchy", unfollowed := true, recurses := true, apart := false }
def GridCauchySaid : Prop := gridCauchyRow.holds Try.pinned (OpenSpec.ofChange gridCauchySpec)

/-- ITS FALSE NEIGHBOUR: 'it returns false'. Refute it at one input. -/
def gridCauchyWrong : ChangeSpec := { name := "gridCauchy", fn := fun _ => fun
  | [d1, d2, d3, d4] => { results := [.lit (.bool false)], args := [d1, d2, d3, d4] }
  | _ => none }
def GridCauchyWrongFalsely : Prop := gridCauchyRow.holds Try.pinned (OpenSpec.ofChange gridCauchyWrong)

/-- 'wholekeep.TablesOwn': WHATEVER THE INPUT: true; the input reads as it did. -/
def tablesOwnSpec : ChangeSpec := { name := "tablesOwn", fn := fun _ => fun
  | [d1, d2, d3, d4] => { results := [.lit (.bool true)], args := [d1, d2, d3, d4] }
  | _ => none }
def tablesOwnRow : OpenClaim := { program := "ytifkphlbjjdigaa", sum := "f8a2ae202eb62cd5520f71f1021d06b45a6c7f8a355ff93ec6852ea97f8e4df8", func := "wholemend/wholekeep.TablesOwn", spec := "tablesOwn", unfollowed := true, recurses := true, apart := false }
def TablesOwnSaid : Prop := tablesOwnRow.holds Try.pinned (OpenSpec.ofChange tablesOwnSpec)

/-- ITS FALSE NEIGHBOUR: 'it returns false'. Refute it at one input. -/
def tablesOwnWrong : ChangeSpec := { name := "tablesOwn", fn := fun _ => fun
  | [d1, d2, d3, d4] => { results := [.lit (.bool false)], args := [d1, d2, d3, d4] }
  | _ => none }
def TablesOwnWrongFalsely : Prop := tablesOwnRow.holds Try.pinned (OpenSpec.ofChange tablesOwnWrong)

/-- 'wholetop.TopBytes': WHATEVER THE INPUT: true; the input reads as it did. -/
def topBytesSpec : ChangeSpec := { name := "topBytes", fn := fun _ => fun
  | [d1, d2, d3] => { results := [.lit (.bool true)], args := [d1, d2, d3] }
  | _ => none }
def topBytesRow : OpenClaim := { program := "ytifkphlbjjdigaa", sum := "f8a2ae202eb62cd5520f71f1021d06b45a6c7f8a355ff93ec6852ea97f8e4df8", func := "wholemend/wholetop.TopBytes", spec := "topBytes", inPlace := ["internal/bytealg.IndexByteString", "internal/bytealg.IndexString"], unfollowed := true, recurses := true, named := ["internal/bytealg.MaxLen"], apart := false }
def TopBytesSaid : Prop := topBytesRow.holds Try.pinned (OpenSpec.ofChange topBytesSpec)

/-- ITS FALSE NEIGHBOUR: 'it returns false'. Refute it at one input. -/
def topBytesWrong : ChangeSpec := { name := "topBytes", fn := fun _ => fun
  | [d1, d2, d3] => { results := [.lit (.bool false)], args := [d1, d2, d3] }
  | _ => none }
def TopBytesWrongFalsely : Prop := topBytesRow.holds Try.pinned (OpenSpec.ofChange topBytesWrong)

/- THE SECOND FORM. 'bulk': how many values and letters a reading holds, each counted each time it is reached (what is shared counts as often as it is met; a slice's spare places count too). A statement '..UptoSaid' is the law's where the arguments, and the package variables that the reading takes, are together of bulk at most 1048576: NARROWER than '..Said'. Prove '..Said' where nothing that the law and all that it calls make is longer than what came in: it says more and counts as full. Else prove '..UptoSaid'. A law counts once. -/
mutual
def uptoBulk {H : Type} : DataW H → Nat
  | .lit (.string bytes) => bytes.length + 1
  | .lit _ => 1
  | .nil => 1
  | .ptr d => uptoBulk d + 1
  | .slice elems spare => uptoBulkAll elems + uptoBulkAll spare + 1
  | .agg parts => uptoBulkAll parts + 1
  | .iface _ d => uptoBulk d + 1
  | .map entries => uptoBulkEntries entries + 1
  | .held _ => 1
def uptoBulkAll {H : Type} : List (DataW H) → Nat
  | [] => 0
  | d :: r => uptoBulk d + uptoBulkAll r
def uptoBulkEntries {H : Type} : List (Lit × DataW H) → Nat
  | [] => 0
  | x :: r => uptoBulkEntry x + uptoBulkEntries r
def uptoBulkEntry {H : Type} : Lit × DataW H → Nat
  | (.string bytes, d) => bytes.length + uptoBulk d + 1
  | (_, d) => uptoBulk d + 1
 end
def uptoSmall : (H : Type) → List (DataW H) → Bool := fun _ ds => decide (uptoBulkAll ds ≤ 1048576)
def OpenSpec.upto (s : _root_.Go.ChangeSpec) : _root_.Go.OpenSpec := { _root_.Go.OpenSpec.ofChange s with cond := some uptoSmall }

/-- 'wholekeep.MatrixTimes', WHERE WHAT IT READS IS OF BULK AT MOST 1048576: true; the input reads as it did. -/
def matrixTimesUptoRow : OpenClaim := { program := "ytifkphlbjjdigaa", sum := "f8a2ae202eb62cd5520f71f1021d06b45a6c7f8a355ff93ec6852ea97f8e4df8", func := "wholemend/wholekeep.MatrixTimes", spec := "matrixTimes", unfollowed := true, recurses := true, apart := false, narrowed := true }
def MatrixTimesUptoSaid : Prop := matrixTimesUptoRow.holds Try.pinned (OpenSpec.upto matrixTimesSpec)

/-- 'wholekeep.MatrixBinet', WHERE WHAT IT READS IS OF BULK AT MOST 1048576: true; the input reads as it did. -/
def matrixBinetUptoRow : OpenClaim := { program := "ytifkphlbjjdigaa", sum := "f8a2ae202eb62cd5520f71f1021d06b45a6c7f8a355ff93ec6852ea97f8e4df8", func := "wholemend/wholekeep.MatrixBinet", spec := "matrixBinet", unfollowed := true, recurses := true, apart := false, narrowed := true }
def MatrixBinetUptoSaid : Prop := matrixBinetUptoRow.holds Try.pinned (OpenSpec.upto matrixBinetSpec)

/-- 'wholekeep.MatrixRanks', WHERE WHAT IT READS IS OF BULK AT MOST 1048576: true; the input reads as it did. -/
def matrixRanksUptoRow : OpenClaim := { program := "ytifkphlbjjdigaa", sum := "f8a2ae202eb62cd5520f71f1021d06b45a6c7f8a355ff93ec6852ea97f8e4df8", func := "wholemend/wholekeep.MatrixRanks", spec := "matrixRanks", unfollowed := true, recurses := true, apart := false, narrowed := true }
def MatrixRanksUptoSaid : Prop := matrixRanksUptoRow.holds Try.pinned (OpenSpec.upto matrixRanksSpec)

/-- 'wholekeep.MatrixCapelli', WHERE WHAT IT READS IS OF BULK AT MOST 1048576: true; the input reads as it did. -/
def matrixCapelliUptoRow : OpenClaim := { program := "ytifkphlbjjdigaa", sum := "f8a2ae202eb62cd5520f71f1021d06b45a6c7f8a355ff93ec6852ea97f8e4df8", func := "wholemend/wholekeep.MatrixCapelli", spec := "matrixCapelli", unfollowed := true, recurses := true, apart := false, narrowed := true }
def MatrixCapelliUptoSaid : Prop := matrixCapelliUptoRow.holds Try.pinned (OpenSpec.upto matrixCapelliSpec)

/-- 'wholekeep.MatrixUndone', WHERE WHAT IT READS IS OF BULK AT MOST 1048576: true; the input reads as it did. -/
def matrixUndoneUptoRow : OpenClaim := { program := "ytifkphlbjjdigaa", sum := "f8a2ae202eb62cd5520f71f1021d06b45a6c7f8a355ff93ec6852ea97f8e4df8", func := "wholemend/wholekeep.MatrixUndone", spec := "matrixUndone", unfollowed := true, recurses := true, apart := false, narrowed := true }
def MatrixUndoneUptoSaid : Prop := matrixUndoneUptoRow.holds Try.pinned (OpenSpec.upto matrixUndoneSpec)

/-- 'wholekeep.GridValues', WHERE WHAT IT READS IS OF BULK AT MOST 1048576: true; the input reads as it did. -/
def gridValuesUptoRow : OpenClaim := { program := "ytifkphlbjjdigaa", sum := "f8a2ae202eb62cd5520f71f1021d06b45a6c7f8a355ff93ec6852ea97f8e4df8", func := "wholemend/wholekeep.GridValues", spec := "gridValues", unfollowed := true, recurses := true, apart := false, narrowed := true }
def GridValuesUptoSaid : Prop := gridValuesUptoRow.holds Try.pinned (OpenSpec.upto gridValuesSpec)

/-- 'wholekeep.GridVander', WHERE WHAT IT READS IS OF BULK AT MOST 1048576: true; the input reads as it did. -/
def gridVanderUptoRow : OpenClaim := { program := "ytifkphlbjjdigaa", sum := "f8a2ae202eb62cd5520f71f1021d06b45a6c7f8a355ff93ec6852ea97f8e4df8", func := "wholemend/wholekeep.GridVander", spec := "gridVander", unfollowed := true, recurses := true, apart := false, narrowed := true }
def GridVanderUptoSaid : Prop := gridVanderUptoRow.holds Try.pinned (OpenSpec.upto gridVanderSpec)

/-- 'wholekeep.GridCauchy', WHERE WHAT IT READS IS OF BULK AT MOST 1048576: true; the input reads as it did. -/
def gridCauchyUptoRow : OpenClaim := { program := "ytifkphlbjjdigaa", sum := "f8a2ae202eb62cd5520f71f1021d06b45a6c7f8a355ff93ec6852ea97f8e4df8", func := "wholemend/wholekeep.GridCauchy", spec := "gridCauchy", unfollowed := true, recurses := true, apart := false, narrowed := true }
def GridCauchyUptoSaid : Prop := gridCauchyUptoRow.holds Try.pinned (OpenSpec.upto gridCauchySpec)

/-- 'wholekeep.TablesOwn', WHERE WHAT IT READS IS OF BULK AT MOST 1048576: true; the input reads as it did. -/
def tablesOwnUptoRow : OpenClaim := { program := "ytifkphlbjjdigaa", sum := "f8a2ae202eb62cd5520f71f1021d06b45a6c7f8a355ff93ec6852ea97f8e4df8", func := "wholemend/wholekeep.TablesOwn", spec := "tablesOwn", unfollowed := true, recurses := true, apart := false, narrowed := true }
def TablesOwnUptoSaid : Prop := tablesOwnUptoRow.holds Try.pinned (OpenSpec.upto tablesOwnSpec)

/-- 'wholetop.TopBytes', WHERE WHAT IT READS IS OF BULK AT MOST 1048576: true; the input reads as it did. -/
def topBytesUptoRow : OpenClaim := { program := "ytifkphlbjjdigaa", sum := "f8a2ae202eb62cd5520f71f1021d06b45a6c7f8a355ff93ec6852ea97f8e4df8", func := "wholemend/wholetop.TopBytes", spec := "topBytes", inPlace := ["internal/bytealg.IndexByteString", "internal/bytealg.IndexString"], unfollowed := true, recurses := true, named := ["internal/bytealg.MaxLen"], apart := false, narrowed := true }
def TopBytesUptoSaid : Prop := topBytesUptoRow.holds Try.pinned (OpenSpec.upto topBytesSpec)

end Rows
end Go.Proofs.Ytifkphlbjjdigaa

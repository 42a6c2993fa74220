/-
  No cell of these rows narrows 'for every input' (looked for: loops, veiled, ifaces, maps, wideKeys, modest, calm, conditions, laid).
  DERIVED. THE GIVEN ROWS OF THIS SEAT. 11 by the template 'for every input the law returns true; each argument reads behind the call as it read before'; 0 by the template 'total and deterministic' (their statements: YtkfdimofkkckeaaTotals.lean).
  GIVEN WITH THE SEED: the statements are not yours to turn. If you find one false, say at which input.
  Laid BY PROGRAM, IN A SANDBOX (cutbox-rows.mjs): the forced cells as the released guide's own fill.sh prints them over the translation eeff36adfa0a646c… (all of the seat's roots in one cut). By AI agents, Wed Nov 11 2026. No macro, syntax, notation, axiom, sorry.
-/
import Derived.Test.YtkfdimofkkckeaaChecked
import GoSem.Claim
import GoSem.ClaimJoined
import GoSem.ClaimMapViews
import Derived.JoinedTies
import Derived.KernelRfl
namespace Go.Proofs.Ytkfdimofkkckeaa
/- THE CELL 'sum', in the pinned program and in every row, IS THE sha256 OF THE DUMP (.gsa) THAT YtkfdimofkkckeaaProg.lean LOADS. Nothing in Lean hashes anything: it is a label: what it is worth is what the hold of that sum in a sandbox is worth. -/
noncomputable def Try.pinned : Pinned := { name := "ytkfdimofkkckeaa", sum := "eeff36adfa0a646c01aad91eda16298bbb22ab484d3cfb2444f676f5a81f4f08", checked := Try.checked }
namespace Rows
def none {H : Type} : Left H := { results := [], args := [] }

/-- 'wholekeep.PolyRing': WHATEVER THE INPUT: true; the input reads as it did. -/
def polyRingSpec : ChangeSpec := { name := "polyRing", fn := fun _ => fun
  | [d1, d2, d3, d4] => { results := [.lit (.bool true)], args := [d1, d2, d3, d4] }
  | _ => none }
def polyRingRow : OpenClaim := { program := "ytkfdimofkkckeaa", sum := "eeff36adfa0a646c01aad91eda16298bbb22ab484d3cfb2444f676f5a81f4f08", func := "wholemend/wholekeep.PolyRing", spec := "polyRing", unfollowed := true, recurses := true, apart := false }
def PolyRingSaid : Prop := polyRingRow.holds Try.pinned (OpenSpec.ofChange polyRingSpec)

/-- ITS FALSE NEIGHBOUR: 'it returns false'. Refute it at one input. -/
def polyRingWrong : ChangeSpec := { name := "polyRing", fn := fun _ => fun
  | [d1, d2, d3, d4] => { results := [.lit (.bool false)], args := [d1, d2, d3, d4] }
  | _ => none }
def PolyRingWrongFalsely : Prop := polyRingRow.holds Try.pinned (OpenSpec.ofChange polyRingWrong)

/-- 'wholekeep.PolyValues': WHATEVER THE INPUT: true; the input reads as it did. -/
def polyValuesSpec : ChangeSpec := { name := "polyValues", fn := fun _ => fun
  | [d1, d2, d3, d4] => { results := [.lit (.bool true)], args := [d1, d2, d3, d4] }
  | _ => none }
def polyValuesRow : OpenClaim := { program := "ytkfdimofkkckeaa", sum := "eeff36adfa0a646c01aad91eda16298bbb22ab484d3cfb2444f676f5a81f4f08", func := "wholemend/wholekeep.PolyValues", spec := "polyValues", unfollowed := true, recurses := true, apart := false }
def PolyValuesSaid : Prop := polyValuesRow.holds Try.pinned (OpenSpec.ofChange polyValuesSpec)

/-- ITS FALSE NEIGHBOUR: 'it returns false'. Refute it at one input. -/
def polyValuesWrong : ChangeSpec := { name := "polyValues", fn := fun _ => fun
  | [d1, d2, d3, d4] => { results := [.lit (.bool false)], args := [d1, d2, d3, d4] }
  | _ => none }
def PolyValuesWrongFalsely : Prop := polyValuesRow.holds Try.pinned (OpenSpec.ofChange polyValuesWrong)

/-- 'wholekeep.PolyDivides': WHATEVER THE INPUT: true; the input reads as it did. -/
def polyDividesSpec : ChangeSpec := { name := "polyDivides", fn := fun _ => fun
  | [d1, d2, d3, d4] => { results := [.lit (.bool true)], args := [d1, d2, d3, d4] }
  | _ => none }
def polyDividesRow : OpenClaim := { program := "ytkfdimofkkckeaa", sum := "eeff36adfa0a646c01aad91eda16298bbb22ab484d3cfb2444f676f5a81f4f08", func := "wholemend/wholekeep.PolyDivides", spec := "polyDivides", unfollowed := true, recurses := true, apart := false }
def PolyDividesSaid : Prop := polyDividesRow.holds Try.pinned (OpenSpec.ofChange polyDividesSpec)

/-- ITS FALSE NEIGHBOUR: 'it returns false'. Refute it at one input. -/
def polyDividesWrong : ChangeSpec := { name := "polyDivides", fn := fun _ => fun
  | [d1, d2, d3, d4] => { results := [.lit (.bool false)], args := [d1, d2, d3, d4] }
  | _ => none }
def PolyDividesWrongFalsely : Prop := polyDividesRow.holds Try.pinned (OpenSpec.ofChange polyDividesWrong)

/-- 'wholekeep.PolyCommon': WHATEVER THE INPUT: true; the input reads as it did. -/
def polyCommonSpec : ChangeSpec := { name := "polyCommon", fn := fun _ => fun
  | [d1, d2, d3, d4] => { results := [.lit (.bool true)], args := [d1, d2, d3, d4] }
  | _ => none }
def polyCommonRow : OpenClaim := { program := "ytkfdimofkkckeaa", sum := "eeff36adfa0a646c01aad91eda16298bbb22ab484d3cfb2444f676f5a81f4f08", func := "wholemend/wholekeep.PolyCommon", spec := "polyCommon", unfollowed := true, recurses := true, apart := false }
def PolyCommonSaid : Prop := polyCommonRow.holds Try.pinned (OpenSpec.ofChange polyCommonSpec)

/-- ITS FALSE NEIGHBOUR: 'it returns false'. Refute it at one input. -/
def polyCommonWrong : ChangeSpec := { name := "polyCommon", fn := fun _ => fun
  | [d1, d2, d3, d4] => { results := [.lit (.bool false)], args := [d1, d2, d3, d4] }
  | _ => none }
def PolyCommonWrongFalsely : Prop := polyCommonRow.holds Try.pinned (OpenSpec.ofChange polyCommonWrong)

/-- 'wholekeep.PolyRoots': WHATEVER THE INPUT: true; the input reads as it did. -/
def polyRootsSpec : ChangeSpec := { name := "polyRoots", fn := fun _ => fun
  | [d1, d2, d3] => { results := [.lit (.bool true)], args := [d1, d2, d3] }
  | _ => none }
def polyRootsRow : OpenClaim := { program := "ytkfdimofkkckeaa", sum := "eeff36adfa0a646c01aad91eda16298bbb22ab484d3cfb2444f676f5a81f4f08", func := "wholemend/wholekeep.PolyRoots", spec := "polyRoots", unfollowed := true, recurses := true, apart := false }
def PolyRootsSaid : Prop := polyRootsRow.holds Try.pinned (OpenSpec.ofChange polyRootsSpec)

/-- ITS FALSE NEIGHBOUR: 'it returns false'. Refute it at one input. -/
def polyRootsWrong : ChangeSpec := { name := "polyRoots", fn := fun _ => fun
  | [d1, d2, d3] => { results := [.lit (.bool false)], args := [d1, d2, d3] }
  | _ => none }
def PolyRootsWrongFalsely : Prop := polyRootsRow.holds Try.pinned (OpenSpec.ofChange polyRootsWrong)

/-- 'wholekeep.PolyOwn': WHATEVER THE INPUT: true; the input reads as it did. -/
def polyOwnSpec : ChangeSpec := { name := "polyOwn", fn := fun _ => fun
  | [d1, d2, d3] => { results := [.lit (.bool true)], args := [d1, d2, d3] }
  | _ => none }
def polyOwnRow : OpenClaim := { program := "ytkfdimofkkckeaa", sum := "eeff36adfa0a646c01aad91eda16298bbb22ab484d3cfb2444f676f5a81f4f08", func := "wholemend/wholekeep.PolyOwn", spec := "polyOwn", unfollowed := true, recurses := true, apart := false }
def PolyOwnSaid : Prop := polyOwnRow.holds Try.pinned (OpenSpec.ofChange polyOwnSpec)

/-- ITS FALSE NEIGHBOUR: 'it returns false'. Refute it at one input. -/
def polyOwnWrong : ChangeSpec := { name := "polyOwn", fn := fun _ => fun
  | [d1, d2, d3] => { results := [.lit (.bool false)], args := [d1, d2, d3] }
  | _ => none }
def PolyOwnWrongFalsely : Prop := polyOwnRow.holds Try.pinned (OpenSpec.ofChange polyOwnWrong)

/-- 'wholekeep.PointsBack': WHATEVER THE INPUT: true; the input reads as it did. -/
def pointsBackSpec : ChangeSpec := { name := "pointsBack", fn := fun _ => fun
  | [d1, d2, d3] => { results := [.lit (.bool true)], args := [d1, d2, d3] }
  | _ => none }
def pointsBackRow : OpenClaim := { program := "ytkfdimofkkckeaa", sum := "eeff36adfa0a646c01aad91eda16298bbb22ab484d3cfb2444f676f5a81f4f08", func := "wholemend/wholekeep.PointsBack", spec := "pointsBack", unfollowed := true, recurses := true, apart := false }
def PointsBackSaid : Prop := pointsBackRow.holds Try.pinned (OpenSpec.ofChange pointsBackSpec)

/-- ITS FALSE NEIGHBOUR: 'it returns false'. Refute it at one input. -/
def pointsBackWrong : ChangeSpec := { name := "pointsBack", fn := fun _ => fun
  | [d1, d2, d3] => { results := [.lit (.bool false)], args := [d1, d2, d3] }
  | _ => none }
def PointsBackWrongFalsely : Prop := pointsBackRow.holds Try.pinned (OpenSpec.ofChange pointsBackWrong)

/-- 'wholekeep.PointsMore': WHATEVER THE INPUT: true; the input reads as it did. -/
def pointsMoreSpec : ChangeSpec := { name := "pointsMore", fn := fun _ => fun
  | [d1, d2, d3] => { results := [.lit (.bool true)], args := [d1, d2, d3] }
  | _ => none }
def pointsMoreRow : OpenClaim := { program := "ytkfdimofkkckeaa", sum := "eeff36adfa0a646c01aad91eda16298bbb22ab484d3cfb2444f676f5a81f4f08", func := "wholemend/wholekeep.PointsMore", spec := "pointsMore", unfollowed := true, recurses := true, apart := false }
def PointsMoreSaid : Prop := pointsMoreRow.holds Try.pinned (OpenSpec.ofChange pointsMoreSpec)

/-- ITS FALSE NEIGHBOUR: 'it returns false'. Refute it at one input. -/
def pointsMoreWrong : ChangeSpec := { name := "pointsMore", fn := fun _ => fun
  | [d1, d2, d3] => { results := [.lit (.bool false)], args := [d1, d2, d3] }
  | _ => none }
def PointsMoreWrongFalsely : Prop := pointsMoreRow.holds Try.pinned (OpenSpec.ofChange pointsMoreWrong)

/-- 'wholekeep.PointsSums': WHATEVER THE INPUT: true; the input reads as it did. -/
def pointsSumsSpec : ChangeSpec := { name := "pointsSums", fn := fun _ => fun
  | [d1, d2, d3, d4] => { results := [.lit (.bool true)], args := [d1, d2, d3, d4] }
  | _ => none }
def pointsSumsRow : OpenClaim := { program := "ytkfdimofkkckeaa", sum := "eeff36adfa0a646c01aad91eda16298bbb22ab484d3cfb2444f676f5a81f4f08", func := "wholemend/wholekeep.PointsSums", spec := "pointsSums", unfollowed := true, recurses := true, apart := false }
def PointsSumsSaid : Prop := pointsSumsRow.holds Try.pinned (OpenSpec.ofChange pointsSumsSpec)

/-- ITS FALSE NEIGHBOUR: 'it returns false'. Refute it at one input. -/
def pointsSumsWrong : ChangeSpec := { name := "pointsSums", fn := fun _ => fun
  | [d1, d2, d3, d4] => { results := [.lit (.bool false)], args := [d1, d2, d3, d4] }
  | _ => none }
def PointsSumsWrongFalsely : Prop := pointsSumsRow.holds Try.pinned (OpenSpec.ofChange pointsSumsWrong)

/-- 'wholekeep.FieldPoly': WHATEVER THE INPUT: true; the input reads as it did. -/
def fieldPolySpec : ChangeSpec := { name := "fieldPoly", fn := fun _ => fun
  | [d1, d2] => { results := [.lit (.bool true)], args := [d1, d2] }
  | _ => none }
def fieldPolyRow : OpenClaim := { program := "ytkfdimofkkckeaa", sum := "eeff36adfa0a646c01aad91eda16298bbb22ab484d3cfb2444f676f5a81f4f08", func := "wholemend/wholekeep.FieldPoly", spec := "fieldPoly", unfollowed := true, recurses := true, apart := false }
def FieldPolySaid : Prop := fieldPolyRow.holds Try.pinned (OpenSpec.ofChange fieldPolySpec)

/-- ITS FALSE NEIGHBOUR: 'it returns false'. Refute it at one input. -/
def fieldPolyWrong : ChangeSpec := { name := "fieldPoly", fn := fun _ => fun
  | [d1, d2] => { results := [.lit (.bool false)], args := [d1, d2] }
  | _ => none }
def FieldPolyWrongFalsely : Prop := fieldPolyRow.holds Try.pinned (OpenSpec.ofChange fieldPolyWrong)

/-- 'wholekeep.IrredTimes': WHATEVER THE INPUT: true; the input reads as it did. -/
def irredTimesSpec : ChangeSpec := { name := "irredTimes", fn := fun _ => fun
  | [d1, d2, d3] => { results := [.lit (.bool true)], args := [d1, d2, d3] }
  | _ => none }
def irredTimesRow : OpenClaim := { program := "ytkfdimofkkckeaa", sum := "eeff36adfa0a646c01aad91eda16298bbb22ab484d3cfb2444f676f5a81f4f08", func := "wholemend/wholekeep.IrredTimes", spec := "irredTimes", unfollowed := true, recurses := true, apart := false }
def IrredTimesSaid : Prop := irredTimesRow.holds Try.pinned (OpenSpec.ofChange irredTimesSpec)

/-- ITS FALSE NEIGHBOUR: 'it returns false'. Refute it at one input. -/
def irredTimesWrong : ChangeSpec := { name := "irredTimes", fn := fun _ => fun
  | [d1, d2, d3] => { results := [.lit (.bool false)], args := [d1, d2, d3] }
  | _ => none }
def IrredTimesWrongFalsely : Prop := irredTimesRow.holds Try.pinned (OpenSpec.ofChange irredTimesWrong)

/- THE SECOND FORM. 'bulk': how many values and letters a reading holds, each counted each time it is reached (what is shared counts as often as it is met; a slice's spare places count too). A statement '..UptoSaid' is the law's where the arguments, and the package variables that the reading takes, are together of bulk at most 1048576: NARROWER than '..Said'. Prove '..Said' where nothing that the law and all that it calls make is longer than what came in: it says more and counts as full. Else prove '..UptoSaid'. A law counts once. -/
mutual
def uptoBulk {H : Type} : DataW H → Nat
  | .lit (.string bytes) => bytes.length + 1
  | .lit _ => 1
  | .nil => 1
  | .ptr d => uptoBulk d + 1
  | .slice elems spare => uptoBulkAll elems + uptoBulkAll spare + 1
  | .agg parts => uptoBulkAll parts + 1
  | .iface _ d => uptoBulk d + 1
  | .map entries => uptoBulkEntries entries + 1
  | .held _ => 1
def uptoBulkAll {H : Type} : List (DataW H) → Nat
  | [] => 0
  | d :: r => uptoBulk d + uptoBulkAll r
def uptoBulkEntries {H : Type} : List (Lit × DataW H) → Nat
  | [] => 0
  | x :: r => uptoBulkEntry x + uptoBulkEntries r
def uptoBulkEntry {H : Type} : Lit × DataW H → Nat
  | (.string bytes, d) => bytes.length + uptoBulk d + 1
  | (_, d) => uptoBulk d + 1
 end
def uptoSmall : (H : Type) → List (DataW H) → Bool := fun _ ds => decide (uptoBulkAll ds ≤ 1048576)
def OpenSpec.upto (s : _root_.Go.ChangeSpec) : _root_.Go.OpenSpec := { _root_.Go.OpenSpec.ofChange s with cond := some uptoSmall }

/-- 'wholekeep.PolyRing', WHERE WHAT IT READS IS OF BULK AT MOST 1048576: true; the input reads as it did. -/
def polyRingUptoRow : OpenClaim := { program := "ytkfdimofkkckeaa", sum := "eeff36adfa0a646c01aad91eda16298bbb22ab484d3cfb2444f676f5a81f4f08", func := "wholemend/wholekeep.PolyRing", spec := "polyRing", unfollowed := true, recurses := true, apart := false, narrowed := true }
def PolyRingUptoSaid : Prop := polyRingUptoRow.holds Try.pinned (OpenSpec.upto polyRingSpec)

/-- 'wholekeep.PolyValues', WHERE WHAT IT READS IS OF BULK AT MOST 1048576: true; the input reads as it did. -/
def polyValuesUptoRow : OpenClaim := { program := "ytkfdimofkkckeaa", sum := "eeff36adfa0a646c01aad91eda16298bbb22ab484d3cfb2444f676f5a81f4f08", func := "wholemend/wholekeep.PolyValues", spec := "polyValues", unfollowed := true, recurses := true, apart := false, narrowed := true }
def PolyValuesUptoSaid : Prop := polyValuesUptoRow.holds Try.pinned (OpenSpec.upto polyValuesSpec)

/-- 'wholekeep.PolyDivides', WHERE WHAT IT READS IS OF BULK AT MOST 1048576: true; the input reads as it did. -/
def polyDividesUptoRow : OpenClaim := { program := "ytkfdimofkkckeaa", sum := "eeff36adfa0a646c01aad91eda16298bbb22ab484d3cfb2444f676f5a81f4f08", func := "wholemend/wholekeep.PolyDivides", spec := "polyDivides", unfollowed := true, recurses := true, apart := false, narrowed := true }
def PolyDividesUptoSaid : Prop := polyDividesUptoRow.holds Try.pinned (OpenSpec.upto polyDividesSpec)

/-- 'wholekeep.PolyCommon', WHERE WHAT IT READS IS OF BULK AT MOST 1048576: true; the input reads as it did. -/
def polyCommonUptoRow : OpenClaim := { program := "ytkfdimofkkckeaa", sum := "eeff36adfa0a646c01aad91eda16298bbb22ab484d3cfb2444f676f5a81f4f08", func := "wholemend/wholekeep.PolyCommon", spec := "polyCommon", unfollowed := true, recurses := true, apart := false, narrowed := true }
def PolyCommonUptoSaid : Prop := polyCommonUptoRow.holds Try.pinned (OpenSpec.upto polyCommonSpec)

/-- 'wholekeep.PolyRoots', WHERE WHAT IT READS IS OF BULK AT MOST 1048576: true; the input reads as it did. -/
def polyRootsUptoRow : OpenClaim := { program := "ytkfdimofkkckeaa", sum := "eeff36adfa0a646c01aad91eda16298bbb22ab484d3cfb2444f676f5a81f4f08", func := "wholemend/wholekeep.PolyRoots", spec := "polyRoots", unfollowed := true, recurses := true, apart := false, narrowed := true }
def PolyRootsUptoSaid : Prop := polyRootsUptoRow.holds Try.pinned (OpenSpec.upto polyRootsSpec)

/-- 'wholekeep.PolyOwn', WHERE WHAT IT READS IS OF BULK AT MOST 1048576: true; the input reads as it did. -/
def polyOwnUptoRow : OpenClaim := { program := "ytkfdimofkkckeaa", sum := "eeff36adfa0a646c01aad91eda16298bbb22ab484d3cfb2444f676f5a81f4f08", func := "wholemend/wholekeep.PolyOwn", spec := "polyOwn", unfollowed := true, recurses := true, apart := false, narrowed := true }
def PolyOwnUptoSaid : Prop := polyOwnUptoRow.holds Try.pinned (OpenSpec.upto polyOwnSpec)

/-- 'wholekeep.PointsBack', WHERE WHAT IT READS IS OF BULK AT MOST 1048576: true; the input reads as it did. -/
def pointsBackUptoRow : OpenClaim := { program := "ytkfdimofkkckeaa", sum := "eeff36adfa0a646c01aad91eda16298bbb22ab484d3cfb2444f676f5a81f4f08", func := "wholemend/wholekeep.PointsBack", spec := "pointsBack", unfollowed := true, recurses := true, apart := false, narrowed := true }
def PointsBackUptoSaid : Prop := pointsBackUptoRow.holds Try.pinned (OpenSpec.upto pointsBackSpec)

/-- 'wholekeep.PointsMore', WHERE WHAT IT READS IS OF BULK AT MOST 1048576: true; the input reads as it did. -/
def pointsMoreUptoRow : OpenClaim := { program := "ytkfdimofkkckeaa", sum := "eeff36adfa0a646c01aad91eda16298bbb22ab484d3cfb2444f676f5a81f4f08", func := "wholemend/wholekeep.PointsMore", spec := "pointsMore", unfollowed := true, recurses := true, apart := false, narrowed := true }
def PointsMoreUptoSaid : Prop := pointsMoreUptoRow.holds Try.pinned (OpenSpec.upto pointsMoreSpec)

/-- 'wholekeep.PointsSums', WHERE WHAT IT READS IS OF BULK AT MOST 1048576: true; the input reads as it did. -/
def pointsSumsUptoRow : OpenClaim := { program := "ytkfdimofkkckeaa", sum := "eeff36adfa0a646c01aad91eda16298bbb22ab484d3cfb2444f676f5a81f4f08", func := "wholemend/wholekeep.PointsSums", spec := "pointsSums", unfollowed := true, recurses := true, apart := false, narrowed := true }
def PointsSumsUptoSaid : Prop := pointsSumsUptoRow.holds Try.pinned (OpenSpec.upto pointsSumsSpec)

/-- 'wholekeep.FieldPoly', WHERE WHAT IT READS IS OF BULK AT MOST 1048576: true; the input reads as it did. -/
def fieldPolyUptoRow : OpenClaim := { program := "ytkfdimofkkckeaa", sum := "eeff36adfa0a646c01aad91eda16298bbb22ab484d3cfb2444f676f5a81f4f08", func := "wholemend/wholekeep.FieldPoly", spec := "fieldPoly", unfollowed := true, recurses := true, apart := false, narrowed := true }
def FieldPolyUptoSaid : Prop := fieldPolyUptoRow.holds Try.pinned (OpenSpec.upto fieldPolySpec)

/-- 'wholekeep.IrredTimes', WHERE WHAT IT READS IS OF BULK AT MOST 1048576: true; the input reads as it did. -/
def irredTimesUptoRow : OpenClaim := { program := "ytkfdimofkkckeaa", sum := "eeff36adfa0a646c01aad91eda16298bbb22ab484d3cfb2444f676f5a81f4f08", func := "wholemend/wholekeep.IrredTimes", spec := "irredTimes", unfollowed := true, recurses := true, apart := false, narrowed := true }
def IrredTimesUptoSaid : Prop := irredTimesUptoRow.holds Try.pinned (OpenSpec.upto irredTimesSpec)

end Rows
end Go.Proofs.Ytkfdimofkkckeaa

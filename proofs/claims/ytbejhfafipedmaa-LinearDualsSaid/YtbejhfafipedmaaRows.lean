/-
  No cell of these rows narrows 'for every input' (looked for: loops, veiled, ifaces, maps, wideKeys, modest, calm, conditions, laid).
  DERIVED. THE GIVEN ROWS OF THIS SEAT. 5 by the template 'for every input the law returns true; each argument reads behind the call as it read before'; 0 by the template 'total and deterministic' (their statements: YtbejhfafipedmaaTotals.lean).
  GIVEN WITH THE SEED: the statements are not yours to turn. If you find one false, say at which input.
  Laid BY PROGRAM, IN A SANDBOX (cutbox-rows.mjs): the forced cells as the released guide's own fill.sh prints them over the translation cb338ee330e9bebd… (all of the seat's roots in one cut). By AI agents, Wed Nov 11 2026. No macro, syntax, notation, axiom, sorry.
-/
import Derived.Test.YtbejhfafipedmaaChecked
import GoSem.Claim
import GoSem.ClaimJoined
import GoSem.ClaimMapViews
import Derived.JoinedTies
import Derived.KernelRfl
namespace Go.Proofs.Ytbejhfafipedmaa
/- THE CELL 'sum', in the pinned program and in every row, IS THE sha256 OF THE DUMP (.gsa) THAT YtbejhfafipedmaaProg.lean LOADS. Nothing in Lean hashes anything: it is a label: what it is worth is what the hold of that sum in a sandbox is worth. -/
noncomputable def Try.pinned : Pinned := { name := "ytbejhfafipedmaa", sum := "cb338ee330e9bebd01d52415077e4b6a3b4b9605902d1d929543f42fb72e5c1c", checked := Try.checked }
namespace Rows
def none {H : Type} : Left H := { results := [], args := [] }

/-- 'wholekeep.LinearClosed': WHATEVER THE INPUT: true; the input reads as it did. -/
def linearClosedSpec : ChangeSpec := { name := "linearClosed", fn := fun _ => fun
  | [d1, d2, d3, d4] => { results := [.lit (.bool true)], args := [d1, d2, d3, d4] }
  | _ => none }
def linearClosedRow : OpenClaim := { program := "ytbejhfafipedmaa", sum := "cb338ee330e9bebd01d52415077e4b6a3b4b9605902d1d929543f42fb72e5c1c", func := "wholemend/wholekeep.LinearClosed", spec := "linearClosed", unfollowed := true, recurses := true, apart := false }
def LinearClosedSaid : Prop := linearClosedRow.holds Try.pinned (OpenSpec.ofChange linearClosedSpec)

/-- ITS FALSE NEIGHBOUR: 'it returns false'. Refute it at one input. -/
def linearClosedWrong : ChangeSpec := { name := "linearClosed", fn := fun _ => fun
  | [d1, d2, d3, d4] => { results := [.lit (.bool false)], args := [d1, d2, d3, d4] }
  | _ => none }
def LinearClosedWrongFalsely : Prop := linearClosedRow.holds Try.pinned (OpenSpec.ofChange linearClosedWrong)

/-- 'wholekeep.LinearDuals': WHATEVER THE INPUT: true; the input reads as it did. -/
def linearDualsSpec : ChangeSpec := { name := "linearDuals", fn := fun _ => fun
  | [d1, d2] => { results := [.lit (.bool true)], args := [d1, d2] }
  | _ => none }
def linearDualsRow : OpenClaim := { program := "ytbejhfafipedmaa", sum := "cb338ee330e9bebd01d52415077e4b6a3b4b9605902d1d929543f42fb72e5c1c", func := "wholemend/wholekeep.LinearDuals", spec := "linearDuals", unfollowed := true, recurses := true, apart := false }
def LinearDualsSaid : Prop := linearDualsRow.holds Try.pinned (OpenSpec.ofChange linearDualsSpec)

/-- ITS FALSE NEIGHBOUR: 'it returns false'. Refute it at one input. -/
def linearDualsWrong : ChangeSpec := { name := "linearDuals", fn := fun _ => fun
  | [d1, d2] => { results := [.lit (.bool false)], args := [d1, d2] }
  | _ => none }
def LinearDualsWrongFalsely : Prop := linearDualsRow.holds Try.pinned (OpenSpec.ofChange linearDualsWrong)

/-- 'wholekeep.LinearBounds': WHATEVER THE INPUT: true; the input reads as it did. -/
def linearBoundsSpec : ChangeSpec := { name := "linearBounds", fn := fun _ => fun
  | [d1, d2] => { results := [.lit (.bool true)], args := [d1, d2] }
  | _ => none }
def linearBoundsRow : OpenClaim := { program := "ytbejhfafipedmaa", sum := "cb338ee330e9bebd01d52415077e4b6a3b4b9605902d1d929543f42fb72e5c1c", func := "wholemend/wholekeep.LinearBounds", spec := "linearBounds", unfollowed := true, recurses := true, apart := false }
def LinearBoundsSaid : Prop := linearBoundsRow.holds Try.pinned (OpenSpec.ofChange linearBoundsSpec)

/-- ITS FALSE NEIGHBOUR: 'it returns false'. Refute it at one input. -/
def linearBoundsWrong : ChangeSpec := { name := "linearBounds", fn := fun _ => fun
  | [d1, d2] => { results := [.lit (.bool false)], args := [d1, d2] }
  | _ => none }
def LinearBoundsWrongFalsely : Prop := linearBoundsRow.holds Try.pinned (OpenSpec.ofChange linearBoundsWrong)

/-- 'wholekeep.LinearPacked': WHATEVER THE INPUT: true; the input reads as it did. -/
def linearPackedSpec : ChangeSpec := { name := "linearPacked", fn := fun _ => fun
  | [d1, d2] => { results := [.lit (.bool true)], args := [d1, d2] }
  | _ => none }
def linearPackedRow : OpenClaim := { program := "ytbejhfafipedmaa", sum := "cb338ee330e9bebd01d52415077e4b6a3b4b9605902d1d929543f42fb72e5c1c", func := "wholemend/wholekeep.LinearPacked", spec := "linearPacked", unfollowed := true, recurses := true, apart := false }
def LinearPackedSaid : Prop := linearPackedRow.holds Try.pinned (OpenSpec.ofChange linearPackedSpec)

/-- ITS FALSE NEIGHBOUR: 'it returns false'. Refute it at one input. -/
def linearPackedWrong : ChangeSpec := { name := "linearPacked", fn := fun _ => fun
  | [d1, d2] => { results := [.lit (.bool false)], args := [d1, d2] }
  | _ => none }
def LinearPackedWrongFalsely : Prop := linearPackedRow.holds Try.pinned (OpenSpec.ofChange linearPackedWrong)

/-- 'wholekeep.LinearWilliams': WHATEVER THE INPUT: true; the input reads as it did. -/
def linearWilliamsSpec : ChangeSpec := { name := "linearWilliams", fn := fun _ => fun
  | [d1, d2] => { results := [.lit (.bool true)], args := [d1, d2] }
  | _ => none }
def linearWilliamsRow : OpenClaim := { program := "ytbejhfafipedmaa", sum := "cb338ee330e9bebd01d52415077e4b6a3b4b9605902d1d929543f42fb72e5c1c", func := "wholemend/wholekeep.LinearWilliams", spec := "linearWilliams", unfollowed := true, recurses := true, apart := false }
def LinearWilliamsSaid : Prop := linearWilliamsRow.holds Try.pinned (OpenSpec.ofChange linearWilliamsSpec)

/-- ITS FALSE NEIGHBOUR: 'it returns false'. Refute it at one input. -/
def linearWilliamsWrong : ChangeSpec := { name := "linearWilliams", fn := fun _ => fun
  | [d1, d2] => { results := [.lit (.bool false)], args := [d1, d2] }
  | _ => none }
def LinearWilliamsWrongFalsely : Prop := linearWilliamsRow.holds Try.pinned (OpenSpec.ofChange linearWilliamsWrong)

/- THE SECOND FORM. 'bulk': how many values and letters a reading holds, each counted each time it is reached (what is shared counts as often as it is met; a slice's spare places count too). A statement '..UptoSaid' is the law's where the arguments, and the package variables that the reading takes, are together of bulk at most 1048576: NARROWER than '..Said'. Prove '..Said' where nothing that the law and all that it calls make is longer than what came in: it says more and counts as full. Else prove '..UptoSaid'. A law counts once. -/
mutual
def uptoBulk {H : Type} : DataW H → Nat
  | .lit (.string bytes) => bytes.length + 1
  | .lit _ => 1
  | .nil => 1
  | .ptr d => uptoBulk d + 1
  | .slice elems spare => uptoBulkAll elems + uptoBulkAll spare + 1
  | .agg parts => uptoBulkAll parts + 1
  | .iface _ d => uptoBulk d + 1
  | .map entries => uptoBulkEntries entries + 1
  | .held _ => 1
def uptoBulkAll {H : Type} : List (DataW H) → Nat
  | [] => 0
  | d :: r => uptoBulk d + uptoBulkAll r
def uptoBulkEntries {H : Type} : List (Lit × DataW H) → Nat
  | [] => 0
  | x :: r => uptoBulkEntry x + uptoBulkEntries r
def uptoBulkEntry {H : Type} : Lit × DataW H → Nat
  | (.string bytes, d) => bytes.length + uptoBulk d + 1
  | (_, d) => uptoBulk d + 1
 end
def uptoSmall : (H : Type) → List (DataW H) → Bool := fun _ ds => decide (uptoBulkAll ds ≤ 1048576)
def OpenSpec.upto (s : _root_.Go.ChangeSpec) : _root_.Go.OpenSpec := { _root_.Go.OpenSpec.ofChange s with cond := some uptoSmall }

/-- 'wholekeep.LinearClosed', WHERE WHAT IT READS IS OF BULK AT MOST 1048576: true; the input reads as it did. -/
def linearClosedUptoRow : OpenClaim := { program := "ytbejhfafipedmaa", sum := "cb338ee330e9bebd01d52415077e4b6a3b4b9605902d1d929543f42fb72e5c1c", func := "wholemend/wholekeep.LinearClosed", spec := "linearClosed", unfollowed := true, recurses := true, apart := false, narrowed := true }
def LinearClosedUptoSaid : Prop := linearClosedUptoRow.holds Try.pinned (OpenSpec.upto linearClosedSpec)

/-- 'wholekeep.LinearDuals', WHERE WHAT IT READS IS OF BULK AT MOST 1048576: true; the input reads as it did. -/
def linearDualsUptoRow : OpenClaim := { program := "ytbejhfafipedmaa", sum := "cb338ee330e9bebd01d52415077e4b6a3b4b9605902d1d929543f42fb72e5c1c", func := "wholemend/wholekeep.LinearDuals", spec := "linearDuals", unfollowed := true, recurses := true, apart := false, narrowed := true }
def LinearDualsUptoSaid : Prop := linearDualsUptoRow.holds Try.pinned (OpenSpec.upto linearDualsSpec)

/-- 'wholekeep.LinearBounds', WHERE WHAT IT READS IS OF BULK AT MOST 1048576: true; the input reads as it did. -/
def linearBoundsUptoRow : OpenClaim := { program := "ytbejhfafipedmaa", sum := "cb338ee330e9bebd01d52415077e4b6a3b4b9605902d1d929543f42fb72e5c1c", func := "wholemend/wholekeep.LinearBounds", spec := "linearBounds", unfollowed := true, recurses := true, apart := false, narrowed := true }
def LinearBoundsUptoSaid : Prop := linearBoundsUptoRow.holds Try.pinned (OpenSpec.upto linearBoundsSpec)

/-- 'wholekeep.LinearPacked', WHERE WHAT IT READS IS OF BULK AT MOST 1048576: true; the input reads as it did. -/
def linearPackedUptoRow : OpenClaim := { program := "ytbejhfafipedmaa", sum := "cb338ee330e9bebd01d52415077e4b6a3b4b9605902d1d929543f42fb72e5c1c", func := "wholemend/wholekeep.LinearPacked", spec := "linearPacked", unfollowed := true, recurses := true, apart := false, narrowed := true }
def LinearPackedUptoSaid : Prop := linearPackedUptoRow.holds Try.pinned (OpenSpec.upto linearPackedSpec)

/-- 'wholekeep.LinearWilliams', WHERE WHAT IT READS IS OF BULK AT MOST 1048576: true; the input reads as it did. -/
def linearWilliamsUptoRow : OpenClaim := { program := "ytbejhfafipedmaa", sum := "cb338ee330e9bebd01d52415077e4b6a3b4b9605902d1d929543f42fb72e5c1c", func := "wholemend/wholekeep.LinearWilliams", spec := "linearWilliams", unfollowed := true, recurses := true, apart := false, narrowed := true }
def LinearWilliamsUptoSaid : Prop := linearWilliamsUptoRow.holds Try.pinned (OpenSpec.upto linearWilliamsSpec)

end Rows
end Go.Proofs.Ytbejhfafipedmaa

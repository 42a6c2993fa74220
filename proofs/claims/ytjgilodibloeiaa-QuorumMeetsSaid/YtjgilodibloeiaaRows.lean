/-
  No cell of these rows narrows 'for every input' (looked for: loops, veiled, ifaces, maps, wideKeys, modest, calm, conditions, laid).
  DERIVED. THE GIVEN ROWS OF THIS SEAT. 10 by the template 'for every input the law returns true; each argument reads behind the call as it read before'; 0 by the template 'total and deterministic' (their statements: YtjgilodibloeiaaTotals.lean).
  GIVEN WITH THE SEED: the statements are not yours to turn. If you find one false, say at which input.
  Laid BY PROGRAM, IN A SANDBOX (cutbox-rows.mjs): the forced cells as the released guide's own fill.sh prints them over the translation d7076773794dc0be… (all of the seat's roots in one cut). By AI agents, Wed Nov 11 2026. No macro, syntax, notation, axiom, sorry.
-/
import Derived.Test.YtjgilodibloeiaaChecked
import GoSem.Claim
import GoSem.ClaimJoined
import GoSem.ClaimMapViews
import Derived.JoinedTies
import Derived.KernelRfl
namespace Go.Proofs.Ytjgilodibloeiaa
/- THE CELL 'sum', in the pinned program and in every row, IS THE sha256 OF THE DUMP (.gsa) THAT YtjgilodibloeiaaProg.lean LOADS. Nothing in Lean hashes anything: it is a label: what it is worth is what the hold of that sum in a sandbox is worth. -/
noncomputable def Try.pinned : Pinned := { name := "ytjgilodibloeiaa", sum := "d7076773794dc0beabf5a977e9d56815d96eeb53d6506e25dfe7c894fa157164", checked := Try.checked }
namespace Rows
def none {H : Type} : Left H := { results := [], args := [] }

/-- 'wholekeep.FieldLaws': WHATEVER THE INPUT: true; the input reads as it did. -/
def fieldLawsSpec : ChangeSpec := { name := "fieldLaws", fn := fun _ => fun
  | [d1, d2, d3] => { results := [.lit (.bool true)], args := [d1, d2, d3] }
  | _ => none }
def fieldLawsRow : OpenClaim := { program := "ytjgilodibloeiaa", sum := "d7076773794dc0beabf5a977e9d56815d96eeb53d6506e25dfe7c894fa157164", func := "wholemend/wholekeep.FieldLaws", spec := "fieldLaws", apart := false }
def FieldLawsSaid : Prop := fieldLawsRow.holds Try.pinned (OpenSpec.ofChange fieldLawsSpec)

/-- ITS FALSE NEIGHBOUR: 'it returns false'. Refute it at one input. -/
def fieldLawsWrong : ChangeSpec := { name := "fieldLaws", fn := fun _ => fun
  | [d1, d2, d3] => { results := [.lit (.bool false)], args := [d1, d2, d3] }
  | _ => none }
def FieldLawsWrongFalsely : Prop := fieldLawsRow.holds Try.pinned (OpenSpec.ofChange fieldLawsWrong)

/-- 'wholekeep.FieldLogs': WHATEVER THE INPUT: true; the input reads as it did. -/
def fieldLogsSpec : ChangeSpec := { name := "fieldLogs", fn := fun _ => fun
  | [d1, d2] => { results := [.lit (.bool true)], args := [d1, d2] }
  | _ => none }
def fieldLogsRow : OpenClaim := { program := "ytjgilodibloeiaa", sum := "d7076773794dc0beabf5a977e9d56815d96eeb53d6506e25dfe7c894fa157164", func := "wholemend/wholekeep.FieldLogs", spec := "fieldLogs", apart := false }
def FieldLogsSaid : Prop := fieldLogsRow.holds Try.pinned (OpenSpec.ofChange fieldLogsSpec)

/-- ITS FALSE NEIGHBOUR: 'it returns false'. Refute it at one input. -/
def fieldLogsWrong : ChangeSpec := { name := "fieldLogs", fn := fun _ => fun
  | [d1, d2] => { results := [.lit (.bool false)], args := [d1, d2] }
  | _ => none }
def FieldLogsWrongFalsely : Prop := fieldLogsRow.holds Try.pinned (OpenSpec.ofChange fieldLogsWrong)

/-- 'wholekeep.FieldTwice': WHATEVER THE INPUT: true; the input reads as it did. -/
def fieldTwiceSpec : ChangeSpec := { name := "fieldTwice", fn := fun _ => fun
  | [d1, d2] => { results := [.lit (.bool true)], args := [d1, d2] }
  | _ => none }
def fieldTwiceRow : OpenClaim := { program := "ytjgilodibloeiaa", sum := "d7076773794dc0beabf5a977e9d56815d96eeb53d6506e25dfe7c894fa157164", func := "wholemend/wholekeep.FieldTwice", spec := "fieldTwice", unfollowed := true, recurses := true, apart := false }
def FieldTwiceSaid : Prop := fieldTwiceRow.holds Try.pinned (OpenSpec.ofChange fieldTwiceSpec)

/-- ITS FALSE NEIGHBOUR: 'it returns false'. Refute it at one input. -/
def fieldTwiceWrong : ChangeSpec := { name := "fieldTwice", fn := fun _ => fun
  | [d1, d2] => { results := [.lit (.bool false)], args := [d1, d2] }
  | _ => none }
def FieldTwiceWrongFalsely : Prop := fieldTwiceRow.holds Try.pinned (OpenSpec.ofChange fieldTwiceWrong)

/-- 'wholekeep.FieldFermat': WHATEVER THE INPUT: true; the input reads as it did. -/
def fieldFermatSpec : ChangeSpec := { name := "fieldFermat", fn := fun _ => fun
  | [d1, d2, d3] => { results := [.lit (.bool true)], args := [d1, d2, d3] }
  | _ => none }
def fieldFermatRow : OpenClaim := { program := "ytjgilodibloeiaa", sum := "d7076773794dc0beabf5a977e9d56815d96eeb53d6506e25dfe7c894fa157164", func := "wholemend/wholekeep.FieldFermat", spec := "fieldFermat", unfollowed := true, recurses := true, apart := false }
def FieldFermatSaid : Prop := fieldFermatRow.holds Try.pinned (OpenSpec.ofChange fieldFermatSpec)

/-- ITS FALSE NEIGHBOUR: 'it returns false'. Refute it at one input. -/
def fieldFermatWrong : ChangeSpec := { name := "fieldFermat", fn := fun _ => fun
  | [d1, d2, d3] => { results := [.lit (.bool false)], args := [d1, d2, d3] }
  | _ => none }
def FieldFermatWrongFalsely : Prop := fieldFermatRow.holds Try.pinned (OpenSpec.ofChange fieldFermatWrong)

/-- 'wholekeep.StampOrder': WHATEVER THE INPUT: true; the input reads as it did. -/
def stampOrderSpec : ChangeSpec := { name := "stampOrder", fn := fun _ => fun
  | [d1, d2, d3] => { results := [.lit (.bool true)], args := [d1, d2, d3] }
  | _ => none }
def stampOrderRow : OpenClaim := { program := "ytjgilodibloeiaa", sum := "d7076773794dc0beabf5a977e9d56815d96eeb53d6506e25dfe7c894fa157164", func := "wholemend/wholekeep.StampOrder", spec := "stampOrder", apart := false }
def StampOrderSaid : Prop := stampOrderRow.holds Try.pinned (OpenSpec.ofChange stampOrderSpec)

/-- ITS FALSE NEIGHBOUR: 'it returns false'. Refute it at one input. -/
def stampOrderWrong : ChangeSpec := { name := "stampOrder", fn := fun _ => fun
  | [d1, d2, d3] => { results := [.lit (.bool false)], args := [d1, d2, d3] }
  | _ => none }
def StampOrderWrongFalsely : Prop := stampOrderRow.holds Try.pinned (OpenSpec.ofChange stampOrderWrong)

/-- 'wholekeep.QuorumLeast': WHATEVER THE INPUT: true; the input reads as it did. -/
def quorumLeastSpec : ChangeSpec := { name := "quorumLeast", fn := fun _ => fun
  | [d1, d2] => { results := [.lit (.bool true)], args := [d1, d2] }
  | _ => none }
def quorumLeastRow : OpenClaim := { program := "ytjgilodibloeiaa", sum := "d7076773794dc0beabf5a977e9d56815d96eeb53d6506e25dfe7c894fa157164", func := "wholemend/wholekeep.QuorumLeast", spec := "quorumLeast", unfollowed := true, recurses := true, apart := false }
def QuorumLeastSaid : Prop := quorumLeastRow.holds Try.pinned (OpenSpec.ofChange quorumLeastSpec)

/-- ITS FALSE NEIGHBOUR: 'it returns false'. Refute it at one input. -/
def quorumLeastWrong : ChangeSpec := { name := "quorumLeast", fn := fun _ => fun
  | [d1, d2] => { results := [.lit (.bool false)], args := [d1, d2] }
  | _ => none }
def QuorumLeastWrongFalsely : Prop := quorumLeastRow.holds Try.pinned (OpenSpec.ofChange quorumLeastWrong)

/-- 'wholekeep.QuorumMeets': WHATEVER THE INPUT: true; the input reads as it did. -/
def quorumMeetsSpec : ChangeSpec := { name := "quorumMeets", fn := fun _ => fun
  | [d1, d2, d3] => { results := [.lit (.bool true)], args := [d1, d2, d3] }
  | _ => none }
def quorumMeetsRow : OpenClaim := { program := "ytjgilodibloeiaa", sum := "d7076773794dc0beabf5a977e9d56815d96eeb53d6506e25dfe7c894fa157164", func := "wholemend/wholekeep.QuorumMeets", spec := "quorumMeets", unfollowed := true, recurses := true, apart := false }
def QuorumMeetsSaid : Prop := quorumMeetsRow.holds Try.pinned (OpenSpec.ofChange quorumMeetsSpec)

/-- ITS FALSE NEIGHBOUR: 'it returns false'. Refute it at one input. -/
def quorumMeetsWrong : ChangeSpec := { name := "quorumMeets", fn := fun _ => fun
  | [d1, d2, d3] => { results := [.lit (.bool false)], args := [d1, d2, d3] }
  | _ => none }
def QuorumMeetsWrongFalsely : Prop := quorumMeetsRow.holds Try.pinned (OpenSpec.ofChange quorumMeetsWrong)

/-- 'wholekeep.HammingFar': WHATEVER THE INPUT: true; the input reads as it did. -/
def hammingFarSpec : ChangeSpec := { name := "hammingFar", fn := fun _ => fun
  | [d1, d2] => { results := [.lit (.bool true)], args := [d1, d2] }
  | _ => none }
def hammingFarRow : OpenClaim := { program := "ytjgilodibloeiaa", sum := "d7076773794dc0beabf5a977e9d56815d96eeb53d6506e25dfe7c894fa157164", func := "wholemend/wholekeep.HammingFar", spec := "hammingFar", unfollowed := true, recurses := true, apart := false }
def HammingFarSaid : Prop := hammingFarRow.holds Try.pinned (OpenSpec.ofChange hammingFarSpec)

/-- ITS FALSE NEIGHBOUR: 'it returns false'. Refute it at one input. -/
def hammingFarWrong : ChangeSpec := { name := "hammingFar", fn := fun _ => fun
  | [d1, d2] => { results := [.lit (.bool false)], args := [d1, d2] }
  | _ => none }
def HammingFarWrongFalsely : Prop := hammingFarRow.holds Try.pinned (OpenSpec.ofChange hammingFarWrong)

/-- 'wholekeep.HammingOne': WHATEVER THE INPUT: true; the input reads as it did. -/
def hammingOneSpec : ChangeSpec := { name := "hammingOne", fn := fun _ => fun
  | [d1, d2] => { results := [.lit (.bool true)], args := [d1, d2] }
  | _ => none }
def hammingOneRow : OpenClaim := { program := "ytjgilodibloeiaa", sum := "d7076773794dc0beabf5a977e9d56815d96eeb53d6506e25dfe7c894fa157164", func := "wholemend/wholekeep.HammingOne", spec := "hammingOne", unfollowed := true, recurses := true, apart := false }
def HammingOneSaid : Prop := hammingOneRow.holds Try.pinned (OpenSpec.ofChange hammingOneSpec)

/-- ITS FALSE NEIGHBOUR: 'it returns false'. Refute it at one input. -/
def hammingOneWrong : ChangeSpec := { name := "hammingOne", fn := fun _ => fun
  | [d1, d2] => { results := [.lit (.bool false)], args := [d1, d2] }
  | _ => none }
def HammingOneWrongFalsely : Prop := hammingOneRow.holds Try.pinned (OpenSpec.ofChange hammingOneWrong)

/-- 'wholekeep.HammingAll': WHATEVER THE INPUT: true; the input reads as it did. -/
def hammingAllSpec : ChangeSpec := { name := "hammingAll", fn := fun _ => fun
  | [d] => { results := [.lit (.bool true)], args := [d] }
  | _ => none }
def hammingAllRow : OpenClaim := { program := "ytjgilodibloeiaa", sum := "d7076773794dc0beabf5a977e9d56815d96eeb53d6506e25dfe7c894fa157164", func := "wholemend/wholekeep.HammingAll", spec := "hammingAll", unfollowed := true, recurses := true, apart := false }
def HammingAllSaid : Prop := hammingAllRow.holds Try.pinned (OpenSpec.ofChange hammingAllSpec)

/-- ITS FALSE NEIGHBOUR: 'it returns false'. Refute it at one input. -/
def hammingAllWrong : ChangeSpec := { name := "hammingAll", fn := fun _ => fun
  | [d] => { results := [.lit (.bool false)], args := [d] }
  | _ => none }
def HammingAllWrongFalsely : Prop := hammingAllRow.holds Try.pinned (OpenSpec.ofChange hammingAllWrong)

/- THE SECOND FORM. 'bulk': how many values and letters a reading holds, each counted each time it is reached (what is shared counts as often as it is met; a slice's spare places count too). A statement '..UptoSaid' is the law's where the arguments, and the package variables that the reading takes, are together of bulk at most 1048576: NARROWER than '..Said'. Prove '..Said' where nothing that the law and all that it calls make is longer than what came in: it says more and counts as full. Else prove '..UptoSaid'. A law counts once. -/
mutual
def uptoBulk {H : Type} : DataW H → Nat
  | .lit (.string bytes) => bytes.length + 1
  | .lit _ => 1
  | .nil => 1
  | .ptr d => uptoBulk d + 1
  | .slice elems spare => uptoBulkAll elems + uptoBulkAll spare + 1
  | .agg parts => uptoBulkAll parts + 1
  | .iface _ d => uptoBulk d + 1
  | .map entries => uptoBulkEntries entries + 1
  | .held _ => 1
def uptoBulkAll {H : Type} : List (DataW H) → Nat
  | [] => 0
  | d :: r => uptoBulk d + uptoBulkAll r
def uptoBulkEntries {H : Type} : List (Lit × DataW H) → Nat
  | [] => 0
  | x :: r => uptoBulkEntry x + uptoBulkEntries r
def uptoBulkEntry {H : Type} : Lit × DataW H → Nat
  | (.string bytes, d) => bytes.length + uptoBulk d + 1
  | (_, d) => uptoBulk d + 1
 end
def uptoSmall : (H : Type) → List (DataW H) → Bool := fun _ ds => decide (uptoBulkAll ds ≤ 1048576)
def OpenSpec.upto (s : _root_.Go.ChangeSpec) : _root_.Go.OpenSpec := { _root_.Go.OpenSpec.ofChange s with cond := some uptoSmall }

/-- 'wholekeep.FieldLaws', WHERE WHAT IT READS IS OF BULK AT MOST 1048576: true; the input reads as it did. -/
def fieldLawsUptoRow : OpenClaim := { program := "ytjgilodibloeiaa", sum := "d7076773794dc0beabf5a977e9d56815d96eeb53d6506e25dfe7c894fa157164", func := "wholemend/wholekeep.FieldLaws", spec := "fieldLaws", apart := false, narrowed := true }
def FieldLawsUptoSaid : Prop := fieldLawsUptoRow.holds Try.pinned (OpenSpec.upto fieldLawsSpec)

/-- 'wholekeep.FieldLogs', WHERE WHAT IT READS IS OF BULK AT MOST 1048576: true; the input reads as it did. -/
def fieldLogsUptoRow : OpenClaim := { program := "ytjgilodibloeiaa", sum := "d7076773794dc0beabf5a977e9d56815d96eeb53d6506e25dfe7c894fa157164", func := "wholemend/wholekeep.FieldLogs", spec := "fieldLogs", apart := false, narrowed := true }
def FieldLogsUptoSaid : Prop := fieldLogsUptoRow.holds Try.pinned (OpenSpec.upto fieldLogsSpec)

/-- 'wholekeep.FieldTwice', WHERE WHAT IT READS IS OF BULK AT MOST 1048576: true; the input reads as it did. -/
def fieldTwiceUptoRow : OpenClaim := { program := "ytjgilodibloeiaa", sum := "d7076773794dc0beabf5a977e9d56815d96eeb53d6506e25dfe7c894fa157164", func := "wholemend/wholekeep.FieldTwice", spec := "fieldTwice", unfollowed := true, recurses := true, apart := false, narrowed := true }
def FieldTwiceUptoSaid : Prop := fieldTwiceUptoRow.holds Try.pinned (OpenSpec.upto fieldTwiceSpec)

/-- 'wholekeep.FieldFermat', WHERE WHAT IT READS IS OF BULK AT MOST 1048576: true; the input reads as it did. -/
def fieldFermatUptoRow : OpenClaim := { program := "ytjgilodibloeiaa", sum := "d7076773794dc0beabf5a977e9d56815d96eeb53d6506e25dfe7c894fa157164", func := "wholemend/wholekeep.FieldFermat", spec := "fieldFermat", unfollowed := true, recurses := true, apart := false, narrowed := true }
def FieldFermatUptoSaid : Prop := fieldFermatUptoRow.holds Try.pinned (OpenSpec.upto fieldFermatSpec)

/-- 'wholekeep.StampOrder', WHERE WHAT IT READS IS OF BULK AT MOST 1048576: true; the input reads as it did. -/
def stampOrderUptoRow : OpenClaim := { program := "ytjgilodibloeiaa", sum := "d7076773794dc0beabf5a977e9d56815d96eeb53d6506e25dfe7c894fa157164", func := "wholemend/wholekeep.StampOrder", spec := "stampOrder", apart := false, narrowed := true }
def StampOrderUptoSaid : Prop := stampOrderUptoRow.holds Try.pinned (OpenSpec.upto stampOrderSpec)

/-- 'wholekeep.QuorumLeast', WHERE WHAT IT READS IS OF BULK AT MOST 1048576: true; the input reads as it did. -/
def quorumLeastUptoRow : OpenClaim := { program := "ytjgilodibloeiaa", sum := "d7076773794dc0beabf5a977e9d56815d96eeb53d6506e25dfe7c894fa157164", func := "wholemend/wholekeep.QuorumLeast", spec := "quorumLeast", unfollowed := true, recurses := true, apart := false, narrowed := true }
def QuorumLeastUptoSaid : Prop := quorumLeastUptoRow.holds Try.pinned (OpenSpec.upto quorumLeastSpec)

/-- 'wholekeep.QuorumMeets', WHERE WHAT IT READS IS OF BULK AT MOST 1048576: true; the input reads as it did. -/
def quorumMeetsUptoRow : OpenClaim := { program := "ytjgilodibloeiaa", sum := "d7076773794dc0beabf5a977e9d56815d96eeb53d6506e25dfe7c894fa157164", func := "wholemend/wholekeep.QuorumMeets", spec := "quorumMeets", unfollowed := true, recurses := true, apart := false, narrowed := true }
def QuorumMeetsUptoSaid : Prop := quorumMeetsUptoRow.holds Try.pinned (OpenSpec.upto quorumMeetsSpec)

/-- 'wholekeep.HammingFar', WHERE WHAT IT READS IS OF BULK AT MOST 1048576: true; the input reads as it did. -/
def hammingFarUptoRow : OpenClaim := { program := "ytjgilodibloeiaa", sum := "d7076773794dc0beabf5a977e9d56815d96eeb53d6506e25dfe7c894fa157164", func := "wholemend/wholekeep.HammingFar", spec := "hammingFar", unfollowed := true, recurses := true, apart := false, narrowed := true }
def HammingFarUptoSaid : Prop := hammingFarUptoRow.holds Try.pinned (OpenSpec.upto hammingFarSpec)

/-- 'wholekeep.HammingOne', WHERE WHAT IT READS IS OF BULK AT MOST 1048576: true; the input reads as it did. -/
def hammingOneUptoRow : OpenClaim := { program := "ytjgilodibloeiaa", sum := "d7076773794dc0beabf5a977e9d56815d96eeb53d6506e25dfe7c894fa157164", func := "wholemend/wholekeep.HammingOne", spec := "hammingOne", unfollowed := true, recurses := true, apart := false, narrowed := true }
def HammingOneUptoSaid : Prop := hammingOneUptoRow.holds Try.pinned (OpenSpec.upto hammingOneSpec)

/-- 'wholekeep.HammingAll', WHERE WHAT IT READS IS OF BULK AT MOST 1048576: true; the input reads as it did. -/
def hammingAllUptoRow : OpenClaim := { program := "ytjgilodibloeiaa", sum := "d7076773794dc0beabf5a977e9d56815d96eeb53d6506e25dfe7c894fa157164", func := "wholemend/wholekeep.HammingAll", spec := "hammingAll", unfollowed := true, recurses := true, apart := false, narrowed := true }
def HammingAllUptoSaid : Prop := hammingAllUptoRow.holds Try.pinned (OpenSpec.upto hammingAllSpec)

end Rows
end Go.Proofs.Ytjgilodibloeiaa

/-
  No cell of these rows narrows 'for every input' (looked for: loops, veiled, ifaces, maps, wideKeys, modest, calm, conditions, laid).
  DERIVED. THE GIVEN ROWS OF THIS SEAT. 5 by the template 'for every input the law returns true; each argument reads behind the call as it read before'; 0 by the template 'total and deterministic' (their statements: YtojjcdbphmcmeaaTotals.lean).
  GIVEN WITH THE SEED: the statements are not yours to turn. If you find one false, say at which input.
  Laid BY PROGRAM, IN A SANDBOX (cutbox-rows.mjs): the forced cells as the released guide's own fill.sh prints them over the translation 570efba04935ab8c… (all of the seat's roots in one cut). By AI agents, Wed Nov 11 2026. No macro, syntax, notation, axiom, sorry.
-/
import Derived.Test.YtojjcdbphmcmeaaChecked
import GoSem.Claim
import GoSem.ClaimJoined
import GoSem.ClaimMapViews
import Derived.JoinedTies
import Derived.KernelRfl
namespace Go.Proofs.Ytojjcdbphmcmeaa
/- THE CELL 'sum', in the pinned program and in every row, IS THE sha256 OF THE DUMP (.gsa) THAT YtojjcdbphmcmeaaProg.lean LOADS. Nothing in Lean hashes anything: it is a label: what it is worth is what the hold of that sum in a sandbox is worth. -/
noncomputable def Try.pinned : Pinned := { name := "ytojjcdbphmcmeaa", sum := "570efba04935ab8caf0f4633a549226ef6abfe69db2609921fde8bcb83f5c6ca", checked := Try.checked }
namespace Rows
def none {H : Type} : Left H := { results := [], args := [] }

/-- 'wholekeep.IrredMany': WHATEVER THE INPUT: true; the input reads as it did. -/
def irredManySpec : ChangeSpec := { name := "irredMany", fn := fun _ => fun
  | [d1, d2] => { results := [.lit (.bool true)], args := [d1, d2] }
  | _ => none }
def irredManyRow : OpenClaim := { program := "ytojjcdbphmcmeaa", sum := "570efba04935ab8caf0f4633a549226ef6abfe69db2609921fde8bcb83f5c6ca", func := "wholemend/wholekeep.IrredMany", spec := "irredMany", unfollowed := true, recurses := true, apart := false }
def IrredManySaid : Prop := irredManyRow.holds Try.pinned (OpenSpec.ofChange irredManySpec)

/-- ITS FALSE NEIGHBOUR: 'it returns false'. Refute it at one input. -/
def irredManyWrong : ChangeSpec := { name := "irredMany", fn := fun _ => fun
  | [d1, d2] => { results := [.lit (.bool false)], args := [d1, d2] }
  | _ => none }
def IrredManyWrongFalsely : Prop := irredManyRow.holds Try.pinned (OpenSpec.ofChange irredManyWrong)

/-- 'wholekeep.IrredField': WHATEVER THE INPUT: true; the input reads as it did. -/
def irredFieldSpec : ChangeSpec := { name := "irredField", fn := fun _ => fun
  | [d1, d2, d3] => { results := [.lit (.bool true)], args := [d1, d2, d3] }
  | _ => none }
def irredFieldRow : OpenClaim := { program := "ytojjcdbphmcmeaa", sum := "570efba04935ab8caf0f4633a549226ef6abfe69db2609921fde8bcb83f5c6ca", func := "wholemend/wholekeep.IrredField", spec := "irredField", unfollowed := true, recurses := true, apart := false }
def IrredFieldSaid : Prop := irredFieldRow.holds Try.pinned (OpenSpec.ofChange irredFieldSpec)

/-- ITS FALSE NEIGHBOUR: 'it returns false'. Refute it at one input. -/
def irredFieldWrong : ChangeSpec := { name := "irredField", fn := fun _ => fun
  | [d1, d2, d3] => { results := [.lit (.bool false)], args := [d1, d2, d3] }
  | _ => none }
def IrredFieldWrongFalsely : Prop := irredFieldRow.holds Try.pinned (OpenSpec.ofChange irredFieldWrong)

/-- 'wholekeep.SecretBack': WHATEVER THE INPUT: true; the input reads as it did. -/
def secretBackSpec : ChangeSpec := { name := "secretBack", fn := fun _ => fun
  | [d1, d2, d3, d4] => { results := [.lit (.bool true)], args := [d1, d2, d3, d4] }
  | _ => none }
def secretBackRow : OpenClaim := { program := "ytojjcdbphmcmeaa", sum := "570efba04935ab8caf0f4633a549226ef6abfe69db2609921fde8bcb83f5c6ca", func := "wholemend/wholekeep.SecretBack", spec := "secretBack", unfollowed := true, recurses := true, apart := false }
def SecretBackSaid : Prop := secretBackRow.holds Try.pinned (OpenSpec.ofChange secretBackSpec)

/-- ITS FALSE NEIGHBOUR: 'it returns false'. Refute it at one input. -/
def secretBackWrong : ChangeSpec := { name := "secretBack", fn := fun _ => fun
  | [d1, d2, d3, d4] => { results := [.lit (.bool false)], args := [d1, d2, d3, d4] }
  | _ => none }
def SecretBackWrongFalsely : Prop := secretBackRow.holds Try.pinned (OpenSpec.ofChange secretBackWrong)

/-- 'wholekeep.SecretBlind': WHATEVER THE INPUT: true; the input reads as it did. -/
def secretBlindSpec : ChangeSpec := { name := "secretBlind", fn := fun _ => fun
  | [d1, d2, d3] => { results := [.lit (.bool true)], args := [d1, d2, d3] }
  | _ => none }
def secretBlindRow : OpenClaim := { program := "ytojjcdbphmcmeaa", sum := "570efba04935ab8caf0f4633a549226ef6abfe69db2609921fde8bcb83f5c6ca", func := "wholemend/wholekeep.SecretBlind", spec := "secretBlind", unfollowed := true, recurses := true, apart := false }
def SecretBlindSaid : Prop := secretBlindRow.holds Try.pinned (OpenSpec.ofChange secretBlindSpec)

/-- ITS FALSE NEIGHBOUR: 'it returns false'. Refute it at one input. -/
def secretBlindWrong : ChangeSpec := { name := "secretBlind", fn := fun _ => fun
  | [d1, d2, d3] => { results := [.lit (.bool false)], args := [d1, d2, d3] }
  | _ => none }
def SecretBlindWrongFalsely : Prop := secretBlindRow.holds Try.pinned (OpenSpec.ofChange secretBlindWrong)

/-- 'wholekeep.SecretSums': WHATEVER THE INPUT: true; the input reads as it did. -/
def secretSumsSpec : ChangeSpec := { name := "secretSums", fn := fun _ => fun
  | [d1, d2, d3, d4, d5] => { results := [.lit (.bool true)], args := [d1, d2, d3, d4, d5] }
  | _ => none }
def secretSumsRow : OpenClaim := { program := "ytojjcdbphmcmeaa", sum := "570efba04935ab8caf0f4633a549226ef6abfe69db2609921fde8bcb83f5c6ca", func := "wholemend/wholekeep.SecretSums", spec := "secretSums", unfollowed := true, recurses := true, apart := false }
def SecretSumsSaid : Prop := secretSumsRow.holds Try.pinned (OpenSpec.ofChange secretSumsSpec)

/-- ITS FALSE NEIGHBOUR: 'it returns false'. Refute it at one input. -/
def secretSumsWrong : ChangeSpec := { name := "secretSums", fn := fun _ => fun
  | [d1, d2, d3, d4, d5] => { results := [.lit (.bool false)], args := [d1, d2, d3, d4, d5] }
  | _ => none }
def SecretSumsWrongFalsely : Prop := secretSumsRow.holds Try.pinned (OpenSpec.ofChange secretSumsWrong)

/- THE SECOND FORM. 'bulk': how many values and letters a reading holds, each counted each time it is reached (what is shared counts as often as it is met; a slice's spare places count too). A statement '..UptoSaid' is the law's where the arguments, and the package variables that the reading takes, are together of bulk at most 1048576: NARROWER than '..Said'. Prove '..Said' where nothing that the law and all that it calls make is longer than what came in: it says more and counts as full. Else prove '..UptoSaid'. A law counts once. -/
mutual
def uptoBulk {H : Type} : DataW H → Nat
  | .lit (.string bytes) => bytes.length + 1
  | .lit _ => 1
  | .nil => 1
  | .ptr d => uptoBulk d + 1
  | .slice elems spare => uptoBulkAll elems + uptoBulkAll spare + 1
  | .agg parts => uptoBulkAll parts + 1
  | .iface _ d => uptoBulk d + 1
  | .map entries => uptoBulkEntries entries + 1
  | .held _ => 1
def uptoBulkAll {H : Type} : List (DataW H) → Nat
  | [] => 0
  | d :: r => uptoBulk d + uptoBulkAll r
def uptoBulkEntries {H : Type} : List (Lit × DataW H) → Nat
  | [] => 0
  | x :: r => uptoBulkEntry x + uptoBulkEntries r
def uptoBulkEntry {H : Type} : Lit × DataW H → Nat
  | (.string bytes, d) => bytes.length + uptoBulk d + 1
  | (_, d) => uptoBulk d + 1
 end
def uptoSmall : (H : Type) → List (DataW H) → Bool := fun _ ds => decide (uptoBulkAll ds ≤ 1048576)
def OpenSpec.upto (s : _root_.Go.ChangeSpec) : _root_.Go.OpenSpec := { _root_.Go.OpenSpec.ofChange s with cond := some uptoSmall }

/-- 'wholekeep.IrredMany', WHERE WHAT IT READS IS OF BULK AT MOST 1048576: true; the input reads as it did. -/
def irredManyUptoRow : OpenClaim := { program := "ytojjcdbphmcmeaa", sum := "570efba04935ab8caf0f4633a549226ef6abfe69db2609921fde8bcb83f5c6ca", func := "wholemend/wholekeep.IrredMany", spec := "irredMany", unfollowed := true, recurses := true, apart := false, narrowed := true }
def IrredManyUptoSaid : Prop := irredManyUptoRow.holds Try.pinned (OpenSpec.upto irredManySpec)

/-- 'wholekeep.IrredField', WHERE WHAT IT READS IS OF BULK AT MOST 1048576: true; the input reads as it did. -/
def irredFieldUptoRow : OpenClaim := { program := "ytojjcdbphmcmeaa", sum := "570efba04935ab8caf0f4633a549226ef6abfe69db2609921fde8bcb83f5c6ca", func := "wholemend/wholekeep.IrredField", spec := "irredField", unfollowed := true, recurses := true, apart := false, narrowed := true }
def IrredFieldUptoSaid : Prop := irredFieldUptoRow.holds Try.pinned (OpenSpec.upto irredFieldSpec)

/-- 'wholekeep.SecretBack', WHERE WHAT IT READS IS OF BULK AT MOST 1048576: true; the input reads as it did. -/
def secretBackUptoRow : OpenClaim := { program := "ytojjcdbphmcmeaa", sum := "570efba04935ab8caf0f4633a549226ef6abfe69db2609921fde8bcb83f5c6ca", func := "wholemend/wholekeep.SecretBack", spec := "secretBack", unfollowed := true, recurses := true, apart := false, narrowed := true }
def SecretBackUptoSaid : Prop := secretBackUptoRow.holds Try.pinned (OpenSpec.upto secretBackSpec)

/-- 'wholekeep.SecretBlind', WHERE WHAT IT READS IS OF BULK AT MOST 1048576: true; the input reads as it did. -/
def secretBlindUptoRow : OpenClaim := { program := "ytojjcdbphmcmeaa", sum := "570efba04935ab8caf0f4633a549226ef6abfe69db2609921fde8bcb83f5c6ca", func := "wholemend/wholekeep.SecretBlind", spec := "secretBlind", unfollowed := true, recurses := true, apart := false, narrowed := true }
def SecretBlindUptoSaid : Prop := secretBlindUptoRow.holds Try.pinned (OpenSpec.upto secretBlindSpec)

/-- 'wholekeep.SecretSums', WHERE WHAT IT READS IS OF BULK AT MOST 1048576: true; the input reads as it did. -/
def secretSumsUptoRow : OpenClaim := { program := "ytojjcdbphmcmeaa", sum := "570efba04935ab8caf0f4633a549226ef6abfe69db2609921fde8bcb83f5c6ca", func := "wholemend/wholekeep.SecretSums", spec := "secretSums", unfollowed := true, recurses := true, apart := false, narrowed := true }
def SecretSumsUptoSaid : Prop := secretSumsUptoRow.holds Try.pinned (OpenSpec.upto secretSumsSpec)

end Rows
end Go.Proofs.Ytojjcdbphmcmeaa

/-
  No cell of these rows narrows 'for every input' (looked for: loops, veiled, ifaces, maps, wideKeys, modest, calm, conditions, laid).
  DERIVED. THE GIVEN ROWS OF THIS SEAT. 8 by the template 'for every input the law returns true; each argument reads behind the call as it read before'; 0 by the template 'total and deterministic' (their statements: YtfhalkijbenhdaaTotals.lean).
  GIVEN WITH THE SEED: the statements are not yours to turn. If you find one false, say at which input.
  Laid BY PROGRAM, IN A SANDBOX (cutbox-rows.mjs): the forced cells as the released guide's own fill.sh prints them over the translation c3cb52334bace62c… (all of the seat's roots in one cut). By AI agents, Wed Nov 11 2026. No macro, syntax, notation, axiom, sorry.
-/
import Derived.Test.YtfhalkijbenhdaaChecked
import GoSem.Claim
import GoSem.ClaimJoined
import GoSem.ClaimMapViews
import Derived.JoinedTies
import Derived.KernelRfl
namespace Go.Proofs.Ytfhalkijbenhdaa
/- THE CELL 'sum', in the pinned program and in every row, IS THE sha256 OF THE DUMP (.gsa) THAT YtfhalkijbenhdaaProg.lean LOADS. Nothing in Lean hashes anything: it is a label: what it is worth is what the hold of that sum in a sandbox is worth. -/
noncomputable def Try.pinned : Pinned := { name := "ytfhalkijbenhdaa", sum := "c3cb52334bace62c576e881d8d5710cdcc3952dc644c85060c8bbb9cf76c06ba", checked := Try.checked }
namespace Rows
def none {H : Type} : Left H := { results := [], args := [] }

/-- 'wholekeep.StoreReads': WHATEVER THE INPUT: true; the input reads as it did. -/
def storeReadsSpec : ChangeSpec := { name := "storeReads", fn := fun _ => fun
  | [d1, d2, d3, d4, d5] => { results := [.lit (.bool true)], args := [d1, d2, d3, d4, d5] }
  | _ => none }
def storeReadsRow : OpenClaim := { program := "ytfhalkijbenhdaa", sum := "c3cb52334bace62c576e881d8d5710cdcc3952dc644c85060c8bbb9cf76c06ba", func := "wholemend/wholekeep.StoreReads", spec := "storeReads", unfollowed := true, recurses := true, plainKeys := false, apart := false }
def StoreReadsSaid : Prop := storeReadsRow.holds Try.pinned (OpenSpec.ofChange storeReadsSpec)

/-- ITS FALSE NEIGHBOUR: 'it returns false'. Refute it at one input. -/
def storeReadsWrong : ChangeSpec := { name := "storeReads", fn := fun _ => fun
  | [d1, d2, d3, d4, d5] => { results := [.lit (.bool false)], args := [d1, d2, d3, d4, d5] }
  | _ => none }
def StoreReadsWrongFalsely : Prop := storeReadsRow.holds Try.pinned (OpenSpec.ofChange storeReadsWrong)

/-- 'wholekeep.StoreGrows': WHATEVER THE INPUT: true; the input reads as it did. -/
def storeGrowsSpec : ChangeSpec := { name := "storeGrows", fn := fun _ => fun
  | [d1, d2] => { results := [.lit (.bool true)], args := [d1, d2] }
  | _ => none }
def storeGrowsRow : OpenClaim := { program := "ytfhalkijbenhdaa", sum := "c3cb52334bace62c576e881d8d5710cdcc3952dc644c85060c8bbb9cf76c06ba", func := "wholemend/wholekeep.StoreGrows", spec := "storeGrows", unfollowed := true, recurses := true, plainKeys := false, apart := false }
def StoreGrowsSaid : Prop := storeGrowsRow.holds Try.pinned (OpenSpec.ofChange storeGrowsSpec)

/-- ITS FALSE NEIGHBOUR: 'it returns false'. Refute it at one input. -/
def storeGrowsWrong : ChangeSpec := { name := "storeGrows", fn := fun _ => fun
  | [d1, d2] => { results := [.lit (.bool false)], args := [d1, d2] }
  | _ => none }
def StoreGrowsWrongFalsely : Prop := storeGrowsRow.holds Try.pinned (OpenSpec.ofChange storeGrowsWrong)

/-- 'wholekeep.StoreTrue': WHATEVER THE INPUT: true; the input reads as it did. -/
def storeTrueSpec : ChangeSpec := { name := "storeTrue", fn := fun _ => fun
  | [d1, d2] => { results := [.lit (.bool true)], args := [d1, d2] }
  | _ => none }
def storeTrueRow : OpenClaim := { program := "ytfhalkijbenhdaa", sum := "c3cb52334bace62c576e881d8d5710cdcc3952dc644c85060c8bbb9cf76c06ba", func := "wholemend/wholekeep.StoreTrue", spec := "storeTrue", unfollowed := true, recurses := true, plainKeys := false, apart := false }
def StoreTrueSaid : Prop := storeTrueRow.holds Try.pinned (OpenSpec.ofChange storeTrueSpec)

/-- ITS FALSE NEIGHBOUR: 'it returns false'. Refute it at one input. -/
def storeTrueWrong : ChangeSpec := { name := "storeTrue", fn := fun _ => fun
  | [d1, d2] => { results := [.lit (.bool false)], args := [d1, d2] }
  | _ => none }
def StoreTrueWrongFalsely : Prop := storeTrueRow.holds Try.pinned (OpenSpec.ofChange storeTrueWrong)

/-- 'wholekeep.StoreRefuses': WHATEVER THE INPUT: true; the input reads as it did. -/
def storeRefusesSpec : ChangeSpec := { name := "storeRefuses", fn := fun _ => fun
  | [d1, d2, d3, d4] => { results := [.lit (.bool true)], args := [d1, d2, d3, d4] }
  | _ => none }
def storeRefusesRow : OpenClaim := { program := "ytfhalkijbenhdaa", sum := "c3cb52334bace62c576e881d8d5710cdcc3952dc644c85060c8bbb9cf76c06ba", func := "wholemend/wholekeep.StoreRefuses", spec := "storeRefuses", unfollowed := true, recurses := true, plainKeys := false, apart := false }
def StoreRefusesSaid : Prop := storeRefusesRow.holds Try.pinned (OpenSpec.ofChange storeRefusesSpec)

/-- ITS FALSE NEIGHBOUR: 'it returns false'. Refute it at one input. -/
def storeRefusesWrong : ChangeSpec := { name := "storeRefuses", fn := fun _ => fun
  | [d1, d2, d3, d4] => { results := [.lit (.bool false)], args := [d1, d2, d3, d4] }
  | _ => none }
def StoreRefusesWrongFalsely : Prop := storeRefusesRow.holds Try.pinned (OpenSpec.ofChange storeRefusesWrong)

/-- 'wholekeep.StoreApart': WHATEVER THE INPUT: true; the input reads as it did. -/
def storeApartSpec : ChangeSpec := { name := "storeApart", fn := fun _ => fun
  | [d1, d2, d3] => { results := [.lit (.bool true)], args := [d1, d2, d3] }
  | _ => none }
def storeApartRow : OpenClaim := { program := "ytfhalkijbenhdaa", sum := "c3cb52334bace62c576e881d8d5710cdcc3952dc644c85060c8bbb9cf76c06ba", func := "wholemend/wholekeep.StoreApart", spec := "storeApart", unfollowed := true, recurses := true, plainKeys := false, apart := false }
def StoreApartSaid : Prop := storeApartRow.holds Try.pinned (OpenSpec.ofChange storeApartSpec)

/-- ITS FALSE NEIGHBOUR: 'it returns false'. Refute it at one input. -/
def storeApartWrong : ChangeSpec := { name := "storeApart", fn := fun _ => fun
  | [d1, d2, d3] => { results := [.lit (.bool false)], args := [d1, d2, d3] }
  | _ => none }
def StoreApartWrongFalsely : Prop := storeApartRow.holds Try.pinned (OpenSpec.ofChange storeApartWrong)

/-- 'wholekeep.StoreMends': WHATEVER THE INPUT: true; the input reads as it did. -/
def storeMendsSpec : ChangeSpec := { name := "storeMends", fn := fun _ => fun
  | [d1, d2, d3, d4] => { results := [.lit (.bool true)], args := [d1, d2, d3, d4] }
  | _ => none }
def storeMendsRow : OpenClaim := { program := "ytfhalkijbenhdaa", sum := "c3cb52334bace62c576e881d8d5710cdcc3952dc644c85060c8bbb9cf76c06ba", func := "wholemend/wholekeep.StoreMends", spec := "storeMends", unfollowed := true, recurses := true, plainKeys := false, apart := false }
def StoreMendsSaid : Prop := storeMendsRow.holds Try.pinned (OpenSpec.ofChange storeMendsSpec)

/-- ITS FALSE NEIGHBOUR: 'it returns false'. Refute it at one input. -/
def storeMendsWrong : ChangeSpec := { name := "storeMends", fn := fun _ => fun
  | [d1, d2, d3, d4] => { results := [.lit (.bool false)], args := [d1, d2, d3, d4] }
  | _ => none }
def StoreMendsWrongFalsely : Prop := storeMendsRow.holds Try.pinned (OpenSpec.ofChange storeMendsWrong)

/-- 'wholekeep.StoreOwn': WHATEVER THE INPUT: true; the input reads as it did. -/
def storeOwnSpec : ChangeSpec := { name := "storeOwn", fn := fun _ => fun
  | [d1, d2, d3, d4] => { results := [.lit (.bool true)], args := [d1, d2, d3, d4] }
  | _ => none }
def storeOwnRow : OpenClaim := { program := "ytfhalkijbenhdaa", sum := "c3cb52334bace62c576e881d8d5710cdcc3952dc644c85060c8bbb9cf76c06ba", func := "wholemend/wholekeep.StoreOwn", spec := "storeOwn", unfollowed := true, recurses := true, plainKeys := false, apart := false }
def StoreOwnSaid : Prop := storeOwnRow.holds Try.pinned (OpenSpec.ofChange storeOwnSpec)

/-- ITS FALSE NEIGHBOUR: 'it returns false'. Refute it at one input. -/
def storeOwnWrong : ChangeSpec := { name := "storeOwn", fn := fun _ => fun
  | [d1, d2, d3, d4] => { results := [.lit (.bool false)], args := [d1, d2, d3, d4] }
  | _ => none }
def StoreOwnWrongFalsely : Prop := storeOwnRow.holds Try.pinned (OpenSpec.ofChange storeOwnWrong)

/-- 'wholetop.TopStore': WHATEVER THE INPUT: true; the input reads as it did. -/
def topStoreSpec : ChangeSpec := { name := "topStore", fn := fun _ => fun
  | [d1, d2, d3, d4, d5] => { results := [.lit (.bool true)], args := [d1, d2, d3, d4, d5] }
  | _ => none }
def topStoreRow : OpenClaim := { program := "ytfhalkijbenhdaa", sum := "c3cb52334bace62c576e881d8d5710cdcc3952dc644c85060c8bbb9cf76c06ba", func := "wholemend/wholetop.TopStore", spec := "topStore", unfollowed := true, recurses := true, plainKeys := false, apart := false }
def TopStoreSaid : Prop := topStoreRow.holds Try.pinned (OpenSpec.ofChange topStoreSpec)

/-- ITS FALSE NEIGHBOUR: 'it returns false'. Refute it at one input. -/
def topStoreWrong : ChangeSpec := { name := "topStore", fn := fun _ => fun
  | [d1, d2, d3, d4, d5] => { results := [.lit (.bool false)], args := [d1, d2, d3, d4, d5] }
  | _ => none }
def TopStoreWrongFalsely : Prop := topStoreRow.holds Try.pinned (OpenSpec.ofChange topStoreWrong)

/- THE SECOND FORM. 'bulk': how many values and letters a reading holds, each counted each time it is reached (what is shared counts as often as it is met; a slice's spare places count too). A statement '..UptoSaid' is the law's where the arguments, and the package variables that the reading takes, are together of bulk at most 1048576: NARROWER than '..Said'. Prove '..Said' where nothing that the law and all that it calls make is longer than what came in: it says more and counts as full. Else prove '..UptoSaid'. A law counts once. -/
mutual
def uptoBulk {H : Type} : DataW H → Nat
  | .lit (.string bytes) => bytes.length + 1
  | .lit _ => 1
  | .nil => 1
  | .ptr d => uptoBulk d + 1
  | .slice elems spare => uptoBulkAll elems + uptoBulkAll spare + 1
  | .agg parts => uptoBulkAll parts + 1
  | .iface _ d => uptoBulk d + 1
  | .map entries => uptoBulkEntries entries + 1
  | .held _ => 1
def uptoBulkAll {H : Type} : List (DataW H) → Nat
  | [] => 0
  | d :: r => uptoBulk d + uptoBulkAll r
def uptoBulkEntries {H : Type} : List (Lit × DataW H) → Nat
  | [] => 0
  | x :: r => uptoBulkEntry x + uptoBulkEntries r
def uptoBulkEntry {H : Type} : Lit × DataW H → Nat
  | (.string bytes, d) => bytes.length + uptoBulk d + 1
  | (_, d) => uptoBulk d + 1
 end
def uptoSmall : (H : Type) → List (DataW H) → Bool := fun _ ds => decide (uptoBulkAll ds ≤ 1048576)
def OpenSpec.upto (s : _root_.Go.ChangeSpec) : _root_.Go.OpenSpec := { _root_.Go.OpenSpec.ofChange s with cond := some uptoSmall }

/-- 'wholekeep.StoreReads', WHERE WHAT IT READS IS OF BULK AT MOST 1048576: true; the input reads as it did. -/
def storeReadsUptoRow : OpenClaim := { program := "ytfhalkijbenhdaa", sum := "c3cb52334bace62c576e881d8d5710cdcc3952dc644c85060c8bbb9cf76c06ba", func := "wholemend/wholekeep.StoreReads", spec := "storeReads", unfollowed := true, recurses := true, plainKeys := false, apart := false, narrowed := true }
def StoreReadsUptoSaid : Prop := storeReadsUptoRow.holds Try.pinned (OpenSpec.upto storeReadsSpec)

/-- 'wholekeep.StoreGrows', WHERE WHAT IT READS IS OF BULK AT MOST 1048576: true; the input reads as it did. -/
def storeGrowsUptoRow : OpenClaim := { program := "ytfhalkijbenhdaa", sum := "c3cb52334bace62c576e881d8d5710cdcc3952dc644c85060c8bbb9cf76c06ba", func := "wholemend/wholekeep.StoreGrows", spec := "storeGrows", unfollowed := true, recurses := true, plainKeys := false, apart := false, narrowed := true }
def StoreGrowsUptoSaid : Prop := storeGrowsUptoRow.holds Try.pinned (OpenSpec.upto storeGrowsSpec)

/-- 'wholekeep.StoreTrue', WHERE WHAT IT READS IS OF BULK AT MOST 1048576: true; the input reads as it did. -/
def storeTrueUptoRow : OpenClaim := { program := "ytfhalkijbenhdaa", sum := "c3cb52334bace62c576e881d8d5710cdcc3952dc644c85060c8bbb9cf76c06ba", func := "wholemend/wholekeep.StoreTrue", spec := "storeTrue", unfollowed := true, recurses := true, plainKeys := false, apart := false, narrowed := true }
def StoreTrueUptoSaid : Prop := storeTrueUptoRow.holds Try.pinned (OpenSpec.upto storeTrueSpec)

/-- 'wholekeep.StoreRefuses', WHERE WHAT IT READS IS OF BULK AT MOST 1048576: true; the input reads as it did. -/
def storeRefusesUptoRow : OpenClaim := { program := "ytfhalkijbenhdaa", sum := "c3cb52334bace62c576e881d8d5710cdcc3952dc644c85060c8bbb9cf76c06ba", func := "wholemend/wholekeep.StoreRefuses", spec := "storeRefuses", unfollowed := true, recurses := true, plainKeys := false, apart := false, narrowed := true }
def StoreRefusesUptoSaid : Prop := storeRefusesUptoRow.holds Try.pinned (OpenSpec.upto storeRefusesSpec)

/-- 'wholekeep.StoreApart', WHERE WHAT IT READS IS OF BULK AT MOST 1048576: true; the input reads as it did. -/
def storeApartUptoRow : OpenClaim := { program := "ytfhalkijbenhdaa", sum := "c3cb52334bace62c576e881d8d5710cdcc3952dc644c85060c8bbb9cf76c06ba", func := "wholemend/wholekeep.StoreApart", spec := "storeApart", unfollowed := true, recurses := true, plainKeys := false, apart := false, narrowed := true }
def StoreApartUptoSaid : Prop := storeApartUptoRow.holds Try.pinned (OpenSpec.upto storeApartSpec)

/-- 'wholekeep.StoreMends', WHERE WHAT IT READS IS OF BULK AT MOST 1048576: true; the input reads as it did. -/
def storeMendsUptoRow : OpenClaim := { program := "ytfhalkijbenhdaa", sum := "c3cb52334bace62c576e881d8d5710cdcc3952dc644c85060c8bbb9cf76c06ba", func := "wholemend/wholekeep.StoreMends", spec := "storeMends", unfollowed := true, recurses := true, plainKeys := false, apart := false, narrowed := true }
def StoreMendsUptoSaid : Prop := storeMendsUptoRow.holds Try.pinned (OpenSpec.upto storeMendsSpec)

/-- 'wholekeep.StoreOwn', WHERE WHAT IT READS IS OF BULK AT MOST 1048576: true; the input reads as it did. -/
def storeOwnUptoRow : OpenClaim := { program := "ytfhalkijbenhdaa", sum := "c3cb52334bace62c576e881d8d5710cdcc3952dc644c85060c8bbb9cf76c06ba", func := "wholemend/wholekeep.StoreOwn", spec := "storeOwn", unfollowed := true, recurses := true, plainKeys := false, apart := false, narrowed := true }
def StoreOwnUptoSaid : Prop := storeOwnUptoRow.holds Try.pinned (OpenSpec.upto storeOwnSpec)

/-- 'wholetop.TopStore', WHERE WHAT IT READS IS OF BULK AT MOST 1048576: true; the input reads as it did. -/
def topStoreUptoRow : OpenClaim := { program := "ytfhalkijbenhdaa", sum := "c3cb52334bace62c576e881d8d5710cdcc3952dc644c85060c8bbb9cf76c06ba", func := "wholemend/wholetop.TopStore", spec := "topStore", unfollowed := true, recurses := true, plainKeys := false, apart := false, narrowed := true }
def TopStoreUptoSaid : Prop := topStoreUptoRow.holds Try.pinned (OpenSpec.upto topStoreSpec)

end Rows
end Go.Proofs.Ytfhalkijbenhdaa

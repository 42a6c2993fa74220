/-
  No cell of these rows narrows 'for every input' (looked for: loops, veiled, ifaces, maps, wideKeys, modest, calm, conditions, laid).
  DERIVED. THE GIVEN ROWS OF THIS SEAT. 8 by the template 'for every input the law returns true; each argument reads behind the call as it read before'; 0 by the template 'total and deterministic' (their statements: YtkcmlcomonfoiaaTotals.lean).
  GIVEN WITH THE SEED: the statements are not yours to turn. If you find one false, say at which input.
  Laid BY PROGRAM, IN A SANDBOX (cutbox-rows.mjs): the forced cells as the released guide's own fill.sh prints them over the translation a8d23ab4450d28af… (all of the seat's roots in one cut). By AI agents, Wed Nov 11 2026. No macro, syntax, notation, axiom, sorry.
-/
import Derived.Test.YtkcmlcomonfoiaaChecked
import GoSem.Claim
import GoSem.ClaimJoined
import GoSem.ClaimMapViews
import Derived.JoinedTies
import Derived.KernelRfl
namespace Go.Proofs.Ytkcmlcomonfoiaa
/- THE CELL 'sum', in the pinned program and in every row, IS THE sha256 OF THE DUMP (.gsa) THAT YtkcmlcomonfoiaaProg.lean LOADS. Nothing in Lean hashes anything: it is a label: what it is worth is what the hold of that sum in a sandbox is worth. -/
noncomputable def Try.pinned : Pinned := { name := "ytkcmlcomonfoiaa", sum := "a8d23ab4450d28af91bd26dc6236459c4dd298c4fb8b5151b138cd07a1ca0447", checked := Try.checked }
namespace Rows
def none {H : Type} : Left H := { results := [], args := [] }

/-- 'wholekeep.MasseyMakes': WHATEVER THE INPUT: true; the input reads as it did. -/
def masseyMakesSpec : ChangeSpec := { name := "masseyMakes", fn := fun _ => fun
  | [d] => { results := [.lit (.bool true)], args := [d] }
  | _ => none }
def masseyMakesRow : OpenClaim := { program := "ytkcmlcomonfoiaa", sum := "a8d23ab4450d28af91bd26dc6236459c4dd298c4fb8b5151b138cd07a1ca0447", func := "wholemend/wholekeep.MasseyMakes", spec := "masseyMakes", unfollowed := true, recurses := true, apart := false }
def MasseyMakesSaid : Prop := masseyMakesRow.holds Try.pinned (OpenSpec.ofChange masseyMakesSpec)

/-- ITS FALSE NEIGHBOUR: 'it returns false'. Refute it at one input. -/
def masseyMakesWrong : ChangeSpec := { name := "masseyMakes", fn := fun _ => fun
  | [d] => { results := [.lit (.bool false)], args := [d] }
  | _ => none }
def MasseyMakesWrongFalsely : Prop := masseyMakesRow.holds Try.pinned (OpenSpec.ofChange masseyMakesWrong)

/-- 'wholekeep.MasseyLeast': WHATEVER THE INPUT: true; the input reads as it did. -/
def masseyLeastSpec : ChangeSpec := { name := "masseyLeast", fn := fun _ => fun
  | [d1, d2, d3] => { results := [.lit (.bool true)], args := [d1, d2, d3] }
  | _ => none }
def masseyLeastRow : OpenClaim := { program := "ytkcmlcomonfoiaa", sum := "a8d23ab4450d28af91bd26dc6236459c4dd298c4fb8b5151b138cd07a1ca0447", func := "wholemend/wholekeep.MasseyLeast", spec := "masseyLeast", unfollowed := true, recurses := true, apart := false }
def MasseyLeastSaid : Prop := masseyLeastRow.holds Try.pinned (OpenSpec.ofChange masseyLeastSpec)

/-- ITS FALSE NEIGHBOUR: 'it returns false'. Refute it at one input. -/
def masseyLeastWrong : ChangeSpec := { name := "masseyLeast", fn := fun _ => fun
  | [d1, d2, d3] => { results := [.lit (.bool false)], args := [d1, d2, d3] }
  | _ => none }
def MasseyLeastWrongFalsely : Prop := masseyLeastRow.holds Try.pinned (OpenSpec.ofChange masseyLeastWrong)

/-- 'wholekeep.MasseyGrows': WHATEVER THE INPUT: true; the input reads as it did. -/
def masseyGrowsSpec : ChangeSpec := { name := "masseyGrows", fn := fun _ => fun
  | [d1, d2] => { results := [.lit (.bool true)], args := [d1, d2] }
  | _ => none }
def masseyGrowsRow : OpenClaim := { program := "ytkcmlcomonfoiaa", sum := "a8d23ab4450d28af91bd26dc6236459c4dd298c4fb8b5151b138cd07a1ca0447", func := "wholemend/wholekeep.MasseyGrows", spec := "masseyGrows", unfollowed := true, recurses := true, apart := false }
def MasseyGrowsSaid : Prop := masseyGrowsRow.holds Try.pinned (OpenSpec.ofChange masseyGrowsSpec)

/-- ITS FALSE NEIGHBOUR: 'it returns false'. Refute it at one input. -/
def masseyGrowsWrong : ChangeSpec := { name := "masseyGrows", fn := fun _ => fun
  | [d1, d2] => { results := [.lit (.bool false)], args := [d1, d2] }
  | _ => none }
def MasseyGrowsWrongFalsely : Prop := masseyGrowsRow.holds Try.pinned (OpenSpec.ofChange masseyGrowsWrong)

/-- 'wholekeep.PairSums': WHATEVER THE INPUT: true; the input reads as it did. -/
def pairSumsSpec : ChangeSpec := { name := "pairSums", fn := fun _ => fun
  | [d1, d2] => { results := [.lit (.bool true)], args := [d1, d2] }
  | _ => none }
def pairSumsRow : OpenClaim := { program := "ytkcmlcomonfoiaa", sum := "a8d23ab4450d28af91bd26dc6236459c4dd298c4fb8b5151b138cd07a1ca0447", func := "wholemend/wholekeep.PairSums", spec := "pairSums", apart := false }
def PairSumsSaid : Prop := pairSumsRow.holds Try.pinned (OpenSpec.ofChange pairSumsSpec)

/-- ITS FALSE NEIGHBOUR: 'it returns false'. Refute it at one input. -/
def pairSumsWrong : ChangeSpec := { name := "pairSums", fn := fun _ => fun
  | [d1, d2] => { results := [.lit (.bool false)], args := [d1, d2] }
  | _ => none }
def PairSumsWrongFalsely : Prop := pairSumsRow.holds Try.pinned (OpenSpec.ofChange pairSumsWrong)

/-- 'wholekeep.PairTells': WHATEVER THE INPUT: true; the input reads as it did. -/
def pairTellsSpec : ChangeSpec := { name := "pairTells", fn := fun _ => fun
  | [d1, d2, d3, d4, d5] => { results := [.lit (.bool true)], args := [d1, d2, d3, d4, d5] }
  | _ => none }
def pairTellsRow : OpenClaim := { program := "ytkcmlcomonfoiaa", sum := "a8d23ab4450d28af91bd26dc6236459c4dd298c4fb8b5151b138cd07a1ca0447", func := "wholemend/wholekeep.PairTells", spec := "pairTells", apart := false }
def PairTellsSaid : Prop := pairTellsRow.holds Try.pinned (OpenSpec.ofChange pairTellsSpec)

/-- ITS FALSE NEIGHBOUR: 'it returns false'. Refute it at one input. -/
def pairTellsWrong : ChangeSpec := { name := "pairTells", fn := fun _ => fun
  | [d1, d2, d3, d4, d5] => { results := [.lit (.bool false)], args := [d1, d2, d3, d4, d5] }
  | _ => none }
def PairTellsWrongFalsely : Prop := pairTellsRow.holds Try.pinned (OpenSpec.ofChange pairTellsWrong)

/-- 'wholekeep.PairBack': WHATEVER THE INPUT: true; the input reads as it did. -/
def pairBackSpec : ChangeSpec := { name := "pairBack", fn := fun _ => fun
  | [d1, d2, d3, d4] => { results := [.lit (.bool true)], args := [d1, d2, d3, d4] }
  | _ => none }
def pairBackRow : OpenClaim := { program := "ytkcmlcomonfoiaa", sum := "a8d23ab4450d28af91bd26dc6236459c4dd298c4fb8b5151b138cd07a1ca0447", func := "wholemend/wholekeep.PairBack", spec := "pairBack", inPlace := ["internal/abi.NoEscape", "internal/bytealg.MakeNoZero"], apart := false }
def PairBackSaid : Prop := pairBackRow.holds Try.pinned (OpenSpec.ofChange pairBackSpec)

/-- ITS FALSE NEIGHBOUR: 'it returns false'. Refute it at one input. -/
def pairBackWrong : ChangeSpec := { name := "pairBack", fn := fun _ => fun
  | [d1, d2, d3, d4] => { results := [.lit (.bool false)], args := [d1, d2, d3, d4] }
  | _ => none }
def PairBackWrongFalsely : Prop := pairBackRow.holds Try.pinned (OpenSpec.ofChange pairBackWrong)

/-- 'wholekeep.TreeBinds': WHATEVER THE INPUT: true; the input reads as it did. -/
def treeBindsSpec : ChangeSpec := { name := "treeBinds", fn := fun _ => fun
  | [d1, d2, d3, d4, d5, d6, d7] => { results := [.lit (.bool true)], args := [d1, d2, d3, d4, d5, d6, d7] }
  | _ => none }
def treeBindsRow : OpenClaim := { program := "ytkcmlcomonfoiaa", sum := "a8d23ab4450d28af91bd26dc6236459c4dd298c4fb8b5151b138cd07a1ca0447", func := "wholemend/wholekeep.TreeBinds", spec := "treeBinds", apart := false }
def TreeBindsSaid : Prop := treeBindsRow.holds Try.pinned (OpenSpec.ofChange treeBindsSpec)

/-- ITS FALSE NEIGHBOUR: 'it returns false'. Refute it at one input. -/
def treeBindsWrong : ChangeSpec := { name := "treeBinds", fn := fun _ => fun
  | [d1, d2, d3, d4, d5, d6, d7] => { results := [.lit (.bool false)], args := [d1, d2, d3, d4, d5, d6, d7] }
  | _ => none }
def TreeBindsWrongFalsely : Prop := treeBindsRow.holds Try.pinned (OpenSpec.ofChange treeBindsWrong)

/-- 'wholekeep.TreeProves': WHATEVER THE INPUT: true; the input reads as it did. -/
def treeProvesSpec : ChangeSpec := { name := "treeProves", fn := fun _ => fun
  | [d1, d2, d3, d4] => { results := [.lit (.bool true)], args := [d1, d2, d3, d4] }
  | _ => none }
def treeProvesRow : OpenClaim := { program := "ytkcmlcomonfoiaa", sum := "a8d23ab4450d28af91bd26dc6236459c4dd298c4fb8b5151b138cd07a1ca0447", func := "wholemend/wholekeep.TreeProves", spec := "treeProves", unfollowed := true, recurses := true, apart := false }
def TreeProvesSaid : Prop := treeProvesRow.holds Try.pinned (OpenSpec.ofChange treeProvesSpec)

/-- ITS FALSE NEIGHBOUR: 'it returns false'. Refute it at one input. -/
def treeProvesWrong : ChangeSpec := { name := "treeProves", fn := fun _ => fun
  | [d1, d2, d3, d4] => { results := [.lit (.bool false)], args := [d1, d2, d3, d4] }
  | _ => none }
def TreeProvesWrongFalsely : Prop := treeProvesRow.holds Try.pinned (OpenSpec.ofChange treeProvesWrong)

/- THE SECOND FORM. 'bulk': how many values and letters a reading holds, each counted each time it is reached (what is shared counts as often as it is met; a slice's spare places count too). A statement '..UptoSaid' is the law's where the arguments, and the package variables that the reading takes, are together of bulk at most 1048576: NARROWER than '..Said'. Prove '..Said' where nothing that the law and all that it calls make is longer than what came in: it says more and counts as full. Else prove '..UptoSaid'. A law counts once. -/
mutual
def uptoBulk {H : Type} : DataW H → Nat
  | .lit (.string bytes) => bytes.length + 1
  | .lit _ => 1
  | .nil => 1
  | .ptr d => uptoBulk d + 1
  | .slice elems spare => uptoBulkAll elems + uptoBulkAll spare + 1
  | .agg parts => uptoBulkAll parts + 1
  | .iface _ d => uptoBulk d + 1
  | .map entries => uptoBulkEntries entries + 1
  | .held _ => 1
def uptoBulkAll {H : Type} : List (DataW H) → Nat
  | [] => 0
  | d :: r => uptoBulk d + uptoBulkAll r
def uptoBulkEntries {H : Type} : List (Lit × DataW H) → Nat
  | [] => 0
  | x :: r => uptoBulkEntry x + uptoBulkEntries r
def uptoBulkEntry {H : Type} : Lit × DataW H → Nat
  | (.string bytes, d) => bytes.length + uptoBulk d + 1
  | (_, d) => uptoBulk d + 1
 end
def uptoSmall : (H : Type) → List (DataW H) → Bool := fun _ ds => decide (uptoBulkAll ds ≤ 1048576)
def OpenSpec.upto (s : _root_.Go.ChangeSpec) : _root_.Go.OpenSpec := { _root_.Go.OpenSpec.ofChange s with cond := some uptoSmall }

/-- 'wholekeep.MasseyMakes', WHERE WHAT IT READS IS OF BULK AT MOST 1048576: true; the input reads as it did. -/
def masseyMakesUptoRow : OpenClaim := { program := "ytkcmlcomonfoiaa", sum := "a8d23ab4450d28af91bd26dc6236459c4dd298c4fb8b5151b138cd07a1ca0447", func := "wholemend/wholekeep.MasseyMakes", spec := "masseyMakes", unfollowed := true, recurses := true, apart := false, narrowed := true }
def MasseyMakesUptoSaid : Prop := masseyMakesUptoRow.holds Try.pinned (OpenSpec.upto masseyMakesSpec)

/-- 'wholekeep.MasseyLeast', WHERE WHAT IT READS IS OF BULK AT MOST 1048576: true; the input reads as it did. -/
def masseyLeastUptoRow : OpenClaim := { program := "ytkcmlcomonfoiaa", sum := "a8d23ab4450d28af91bd26dc6236459c4dd298c4fb8b5151b138cd07a1ca0447", func := "wholemend/wholekeep.MasseyLeast", spec := "masseyLeast", unfollowed := true, recurses := true, apart := false, narrowed := true }
def MasseyLeastUptoSaid : Prop := masseyLeastUptoRow.holds Try.pinned (OpenSpec.upto masseyLeastSpec)

/-- 'wholekeep.MasseyGrows', WHERE WHAT IT READS IS OF BULK AT MOST 1048576: true; the input reads as it did. -/
def masseyGrowsUptoRow : OpenClaim := { program := "ytkcmlcomonfoiaa", sum := "a8d23ab4450d28af91bd26dc6236459c4dd298c4fb8b5151b138cd07a1ca0447", func := "wholemend/wholekeep.MasseyGrows", spec := "masseyGrows", unfollowed := true, recurses := true, apart := false, narrowed := true }
def MasseyGrowsUptoSaid : Prop := masseyGrowsUptoRow.holds Try.pinned (OpenSpec.upto masseyGrowsSpec)

/-- 'wholekeep.PairSums', WHERE WHAT IT READS IS OF BULK AT MOST 1048576: true; the input reads as it did. -/
def pairSumsUptoRow : OpenClaim := { program := "ytkcmlcomonfoiaa", sum := "a8d23ab4450d28af91bd26dc6236459c4dd298c4fb8b5151b138cd07a1ca0447", func := "wholemend/wholekeep.PairSums", spec := "pairSums", apart := false, narrowed := true }
def PairSumsUptoSaid : Prop := pairSumsUptoRow.holds Try.pinned (OpenSpec.upto pairSumsSpec)

/-- 'wholekeep.PairTells', WHERE WHAT IT READS IS OF BULK AT MOST 1048576: true; the input reads as it did. -/
def pairTellsUptoRow : OpenClaim := { program := "ytkcmlcomonfoiaa", sum := "a8d23ab4450d28af91bd26dc6236459c4dd298c4fb8b5151b138cd07a1ca0447", func := "wholemend/wholekeep.PairTells", spec := "pairTells", apart := false, narrowed := true }
def PairTellsUptoSaid : Prop := pairTellsUptoRow.holds Try.pinned (OpenSpec.upto pairTellsSpec)

/-- 'wholekeep.PairBack', WHERE WHAT IT READS IS OF BULK AT MOST 1048576: true; the input reads as it did. -/
def pairBackUptoRow : OpenClaim := { program := "ytkcmlcomonfoiaa", sum := "a8d23ab4450d28af91bd26dc6236459c4dd298c4fb8b5151b138cd07a1ca0447", func := "wholemend/wholekeep.PairBack", spec := "pairBack", inPlace := ["internal/abi.NoEscape", "internal/bytealg.MakeNoZero"], apart := false, narrowed := true }
def PairBackUptoSaid : Prop := pairBackUptoRow.holds Try.pinned (OpenSpec.upto pairBackSpec)

/-- 'wholekeep.TreeBinds', WHERE WHAT IT READS IS OF BULK AT MOST 1048576: true; the input reads as it did. -/
def treeBindsUptoRow : OpenClaim := { program := "ytkcmlcomonfoiaa", sum := "a8d23ab4450d28af91bd26dc6236459c4dd298c4fb8b5151b138cd07a1ca0447", func := "wholemend/wholekeep.TreeBinds", spec := "treeBinds", apart := false, narrowed := true }
def TreeBindsUptoSaid : Prop := treeBindsUptoRow.holds Try.pinned (OpenSpec.upto treeBindsSpec)

/-- 'wholekeep.TreeProves', WHERE WHAT IT READS IS OF BULK AT MOST 1048576: true; the input reads as it did. -/
def treeProvesUptoRow : OpenClaim := { program := "ytkcmlcomonfoiaa", sum := "a8d23ab4450d28af91bd26dc6236459c4dd298c4fb8b5151b138cd07a1ca0447", func := "wholemend/wholekeep.TreeProves", spec := "treeProves", unfollowed := true, recurses := true, apart := false, narrowed := true }
def TreeProvesUptoSaid : Prop := treeProvesUptoRow.holds Try.pinned (OpenSpec.upto treeProvesSpec)

end Rows
end Go.Proofs.Ytkcmlcomonfoiaa

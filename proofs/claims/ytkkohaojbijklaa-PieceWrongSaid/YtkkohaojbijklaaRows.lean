/-
  No cell of these rows narrows 'for every input' (looked for: loops, veiled, ifaces, maps, wideKeys, modest, calm, conditions, laid).
  DERIVED. THE GIVEN ROWS OF THIS SEAT. 9 by the template 'for every input the law returns true; each argument reads behind the call as it read before'; 0 by the template 'total and deterministic' (their statements: YtkkohaojbijklaaTotals.lean).
  GIVEN WITH THE SEED: the statements are not yours to turn. If you find one false, say at which input.
  Laid BY PROGRAM, IN A SANDBOX (cutbox-rows.mjs): the forced cells as the released guide's own fill.sh prints them over the translation 44791a847453f748… (all of the seat's roots in one cut). By AI agents, Wed Nov 11 2026. No macro, syntax, notation, axiom, sorry.
-/
import Derived.Test.YtkkohaojbijklaaChecked
import GoSem.Claim
import GoSem.ClaimJoined
import GoSem.ClaimMapViews
import Derived.JoinedTies
import Derived.KernelRfl
namespace Go.Proofs.Ytkkohaojbijklaa
/- THE CELL 'sum', in the pinned program and in every row, IS THE sha256 OF THE DUMP (.gsa) THAT YtkkohaojbijklaaProg.lean LOADS. Nothing in Lean hashes anything: it is a label: what it is worth is what the hold of that sum in a sandbox is worth. -/
noncomputable def Try.pinned : Pinned := { name := "ytkkohaojbijklaa", sum := "44791a847453f748cb125a965fffb0eaf9dac7b0f2e2ba9962e70c038ee2d15d", checked := Try.checked }
namespace Rows
def none {H : Type} : Left H := { results := [], args := [] }

/-- 'wholekeep.ReedFar': WHATEVER THE INPUT: true; the input reads as it did. -/
def reedFarSpec : ChangeSpec := { name := "reedFar", fn := fun _ => fun
  | [d1, d2, d3] => { results := [.lit (.bool true)], args := [d1, d2, d3] }
  | _ => none }
def reedFarRow : OpenClaim := { program := "ytkkohaojbijklaa", sum := "44791a847453f748cb125a965fffb0eaf9dac7b0f2e2ba9962e70c038ee2d15d", func := "wholemend/wholekeep.ReedFar", spec := "reedFar", apart := false }
def ReedFarSaid : Prop := reedFarRow.holds Try.pinned (OpenSpec.ofChange reedFarSpec)

/-- ITS FALSE NEIGHBOUR: 'it returns false'. Refute it at one input. -/
def reedFarWrong : ChangeSpec := { name := "reedFar", fn := fun _ => fun
  | [d1, d2, d3] => { results := [.lit (.bool false)], args := [d1, d2, d3] }
  | _ => none }
def ReedFarWrongFalsely : Prop := reedFarRow.holds Try.pinned (OpenSpec.ofChange reedFarWrong)

/-- 'wholekeep.ReedSums': WHATEVER THE INPUT: true; the input reads as it did. -/
def reedSumsSpec : ChangeSpec := { name := "reedSums", fn := fun _ => fun
  | [d1, d2, d3, d4] => { results := [.lit (.bool true)], args := [d1, d2, d3, d4] }
  | _ => none }
def reedSumsRow : OpenClaim := { program := "ytkkohaojbijklaa", sum := "44791a847453f748cb125a965fffb0eaf9dac7b0f2e2ba9962e70c038ee2d15d", func := "wholemend/wholekeep.ReedSums", spec := "reedSums", unfollowed := true, recurses := true, apart := false }
def ReedSumsSaid : Prop := reedSumsRow.holds Try.pinned (OpenSpec.ofChange reedSumsSpec)

/-- ITS FALSE NEIGHBOUR: 'it returns false'. Refute it at one input. -/
def reedSumsWrong : ChangeSpec := { name := "reedSums", fn := fun _ => fun
  | [d1, d2, d3, d4] => { results := [.lit (.bool false)], args := [d1, d2, d3, d4] }
  | _ => none }
def ReedSumsWrongFalsely : Prop := reedSumsRow.holds Try.pinned (OpenSpec.ofChange reedSumsWrong)

/-- 'wholekeep.ReedWrong': WHATEVER THE INPUT: true; the input reads as it did. -/
def reedWrongSpec : ChangeSpec := { name := "reedWrong", fn := fun _ => fun
  | [d1, d2, d3, d4] => { results := [.lit (.bool true)], args := [d1, d2, d3, d4] }
  | _ => none }
def reedWrongRow : OpenClaim := { program := "ytkkohaojbijklaa", sum := "44791a847453f748cb125a965fffb0eaf9dac7b0f2e2ba9962e70c038ee2d15d", func := "wholemend/wholekeep.ReedWrong", spec := "reedWrong", apart := false }
def ReedWrongSaid : Prop := reedWrongRow.holds Try.pinned (OpenSpec.ofChange reedWrongSpec)

/-- ITS FALSE NEIGHBOUR: 'it returns false'. Refute it at one input. -/
def reedWrongWrong : ChangeSpec := { name := "reedWrong", fn := fun _ => fun
  | [d1, d2, d3, d4] => { results := [.lit (.bool false)], args := [d1, d2, d3, d4] }
  | _ => none }
def ReedWrongWrongFalsely : Prop := reedWrongRow.holds Try.pinned (OpenSpec.ofChange reedWrongWrong)

/-- 'wholekeep.ReedAny': WHATEVER THE INPUT: true; the input reads as it did. -/
def reedAnySpec : ChangeSpec := { name := "reedAny", fn := fun _ => fun
  | [d1, d2, d3] => { results := [.lit (.bool true)], args := [d1, d2, d3] }
  | _ => none }
def reedAnyRow : OpenClaim := { program := "ytkkohaojbijklaa", sum := "44791a847453f748cb125a965fffb0eaf9dac7b0f2e2ba9962e70c038ee2d15d", func := "wholemend/wholekeep.ReedAny", spec := "reedAny", apart := false }
def ReedAnySaid : Prop := reedAnyRow.holds Try.pinned (OpenSpec.ofChange reedAnySpec)

/-- ITS FALSE NEIGHBOUR: 'it returns false'. Refute it at one input. -/
def reedAnyWrong : ChangeSpec := { name := "reedAny", fn := fun _ => fun
  | [d1, d2, d3] => { results := [.lit (.bool false)], args := [d1, d2, d3] }
  | _ => none }
def ReedAnyWrongFalsely : Prop := reedAnyRow.holds Try.pinned (OpenSpec.ofChange reedAnyWrong)

/-- 'wholekeep.WelchTells': WHATEVER THE INPUT: true; the input reads as it did. -/
def welchTellsSpec : ChangeSpec := { name := "welchTells", fn := fun _ => fun
  | [d1, d2] => { results := [.lit (.bool true)], args := [d1, d2] }
  | _ => none }
def welchTellsRow : OpenClaim := { program := "ytkkohaojbijklaa", sum := "44791a847453f748cb125a965fffb0eaf9dac7b0f2e2ba9962e70c038ee2d15d", func := "wholemend/wholekeep.WelchTells", spec := "welchTells", apart := false }
def WelchTellsSaid : Prop := welchTellsRow.holds Try.pinned (OpenSpec.ofChange welchTellsSpec)

/-- ITS FALSE NEIGHBOUR: 'it returns false'. Refute it at one input. -/
def welchTellsWrong : ChangeSpec := { name := "welchTells", fn := fun _ => fun
  | [d1, d2] => { results := [.lit (.bool false)], args := [d1, d2] }
  | _ => none }
def WelchTellsWrongFalsely : Prop := welchTellsRow.holds Try.pinned (OpenSpec.ofChange welchTellsWrong)

/-- 'wholekeep.WelchBack': WHATEVER THE INPUT: true; the input reads as it did. -/
def welchBackSpec : ChangeSpec := { name := "welchBack", fn := fun _ => fun
  | [d1, d2, d3, d4] => { results := [.lit (.bool true)], args := [d1, d2, d3, d4] }
  | _ => none }
def welchBackRow : OpenClaim := { program := "ytkkohaojbijklaa", sum := "44791a847453f748cb125a965fffb0eaf9dac7b0f2e2ba9962e70c038ee2d15d", func := "wholemend/wholekeep.WelchBack", spec := "welchBack", apart := false }
def WelchBackSaid : Prop := welchBackRow.holds Try.pinned (OpenSpec.ofChange welchBackSpec)

/-- ITS FALSE NEIGHBOUR: 'it returns false'. Refute it at one input. -/
def welchBackWrong : ChangeSpec := { name := "welchBack", fn := fun _ => fun
  | [d1, d2, d3, d4] => { results := [.lit (.bool false)], args := [d1, d2, d3, d4] }
  | _ => none }
def WelchBackWrongFalsely : Prop := welchBackRow.holds Try.pinned (OpenSpec.ofChange welchBackWrong)

/-- 'wholekeep.PieceBack': WHATEVER THE INPUT: true; the input reads as it did. -/
def pieceBackSpec : ChangeSpec := { name := "pieceBack", fn := fun _ => fun
  | [d1, d2, d3, d4] => { results := [.lit (.bool true)], args := [d1, d2, d3, d4] }
  | _ => none }
def pieceBackRow : OpenClaim := { program := "ytkkohaojbijklaa", sum := "44791a847453f748cb125a965fffb0eaf9dac7b0f2e2ba9962e70c038ee2d15d", func := "wholemend/wholekeep.PieceBack", spec := "pieceBack", apart := false }
def PieceBackSaid : Prop := pieceBackRow.holds Try.pinned (OpenSpec.ofChange pieceBackSpec)

/-- ITS FALSE NEIGHBOUR: 'it returns false'. Refute it at one input. -/
def pieceBackWrong : ChangeSpec := { name := "pieceBack", fn := fun _ => fun
  | [d1, d2, d3, d4] => { results := [.lit (.bool false)], args := [d1, d2, d3, d4] }
  | _ => none }
def PieceBackWrongFalsely : Prop := pieceBackRow.holds Try.pinned (OpenSpec.ofChange pieceBackWrong)

/-- 'wholekeep.PieceWrong': WHATEVER THE INPUT: true; the input reads as it did. -/
def pieceWrongSpec : ChangeSpec := { name := "pieceWrong", fn := fun _ => fun
  | [d1, d2, d3, d4, d5, d6] => { results := [.lit (.bool true)], args := [d1, d2, d3, d4, d5, d6] }
  | _ => none }
def pieceWrongRow : OpenClaim := { program := "ytkkohaojbijklaa", sum := "44791a847453f748cb125a965fffb0eaf9dac7b0f2e2ba9962e70c038ee2d15d", func := "wholemend/wholekeep.PieceWrong", spec := "pieceWrong", apart := false }
def PieceWrongSaid : Prop := pieceWrongRow.holds Try.pinned (OpenSpec.ofChange pieceWrongSpec)

/-- ITS FALSE NEIGHBOUR: 'it returns false'. Refute it at one input. -/
def pieceWrongWrong : ChangeSpec := { name := "pieceWrong", fn := fun _ => fun
  | [d1, d2, d3, d4, d5, d6] => { results := [.lit (.bool false)], args := [d1, d2, d3, d4, d5, d6] }
  | _ => none }
def PieceWrongWrongFalsely : Prop := pieceWrongRow.holds Try.pinned (OpenSpec.ofChange pieceWrongWrong)

/-- 'wholetop.TopPieces': WHATEVER THE INPUT: true; the input reads as it did. -/
def topPiecesSpec : ChangeSpec := { name := "topPieces", fn := fun _ => fun
  | [d1, d2, d3, d4, d5, d6] => { results := [.lit (.bool true)], args := [d1, d2, d3, d4, d5, d6] }
  | _ => none }
def topPiecesRow : OpenClaim := { program := "ytkkohaojbijklaa", sum := "44791a847453f748cb125a965fffb0eaf9dac7b0f2e2ba9962e70c038ee2d15d", func := "wholemend/wholetop.TopPieces", spec := "topPieces", unfollowed := true, recurses := true, apart := false }
def TopPiecesSaid : Prop := topPiecesRow.holds Try.pinned (OpenSpec.ofChange topPiecesSpec)

/-- ITS FALSE NEIGHBOUR: 'it returns false'. Refute it at one input. -/
def topPiecesWrong : ChangeSpec := { name := "topPieces", fn := fun _ => fun
  | [d1, d2, d3, d4, d5, d6] => { results := [.lit (.bool false)], args := [d1, d2, d3, d4, d5, d6] }
  | _ => none }
def TopPiecesWrongFalsely : Prop := topPiecesRow.holds Try.pinned (OpenSpec.ofChange topPiecesWrong)

/- THE SECOND FORM. 'bulk': how many values and letters a reading holds, each counted each time it is reached (what is shared counts as often as it is met; a slice's spare places count too). A statement '..UptoSaid' is the law's where the arguments, and the package variables that the reading takes, are together of bulk at most 1048576: NARROWER than '..Said'. Prove '..Said' where nothing that the law and all that it calls make is longer than what came in: it says more and counts as full. Else prove '..UptoSaid'. A law counts once. -/
mutual
def uptoBulk {H : Type} : DataW H → Nat
  | .lit (.string bytes) => bytes.length + 1
  | .lit _ => 1
  | .nil => 1
  | .ptr d => uptoBulk d + 1
  | .slice elems spare => uptoBulkAll elems + uptoBulkAll spare + 1
  | .agg parts => uptoBulkAll parts + 1
  | .iface _ d => uptoBulk d + 1
  | .map entries => uptoBulkEntries entries + 1
  | .held _ => 1
def uptoBulkAll {H : Type} : List (DataW H) → Nat
  | [] => 0
  | d :: r => uptoBulk d + uptoBulkAll r
def uptoBulkEntries {H : Type} : List (Lit × DataW H) → Nat
  | [] => 0
  | x :: r => uptoBulkEntry x + uptoBulkEntries r
def uptoBulkEntry {H : Type} : Lit × DataW H → Nat
  | (.string bytes, d) => bytes.length + uptoBulk d + 1
  | (_, d) => uptoBulk d + 1
 end
def uptoSmall : (H : Type) → List (DataW H) → Bool := fun _ ds => decide (uptoBulkAll ds ≤ 1048576)
def OpenSpec.upto (s : _root_.Go.ChangeSpec) : _root_.Go.OpenSpec := { _root_.Go.OpenSpec.ofChange s with cond := some uptoSmall }

/-- 'wholekeep.ReedFar', WHERE WHAT IT READS IS OF BULK AT MOST 1048576: true; the input reads as it did. -/
def reedFarUptoRow : OpenClaim := { program := "ytkkohaojbijklaa", sum := "44791a847453f748cb125a965fffb0eaf9dac7b0f2e2ba9962e70c038ee2d15d", func := "wholemend/wholekeep.ReedFar", spec := "reedFar", apart := false, narrowed := true }
def ReedFarUptoSaid : Prop := reedFarUptoRow.holds Try.pinned (OpenSpec.upto reedFarSpec)

/-- 'wholekeep.ReedSums', WHERE WHAT IT READS IS OF BULK AT MOST 1048576: true; the input reads as it did. -/
def reedSumsUptoRow : OpenClaim := { program := "ytkkohaojbijklaa", sum := "44791a847453f748cb125a965fffb0eaf9dac7b0f2e2ba9962e70c038ee2d15d", func := "wholemend/wholekeep.ReedSums", spec := "reedSums", unfollowed := true, recurses := true, apart := false, narrowed := true }
def ReedSumsUptoSaid : Prop := reedSumsUptoRow.holds Try.pinned (OpenSpec.upto reedSumsSpec)

/-- 'wholekeep.ReedWrong', WHERE WHAT IT READS IS OF BULK AT MOST 1048576: true; the input reads as it did. -/
def reedWrongUptoRow : OpenClaim := { program := "ytkkohaojbijklaa", sum := "44791a847453f748cb125a965fffb0eaf9dac7b0f2e2ba9962e70c038ee2d15d", func := "wholemend/wholekeep.ReedWrong", spec := "reedWrong", apart := false, narrowed := true }
def ReedWrongUptoSaid : Prop := reedWrongUptoRow.holds Try.pinned (OpenSpec.upto reedWrongSpec)

/-- 'wholekeep.ReedAny', WHERE WHAT IT READS IS OF BULK AT MOST 1048576: true; the input reads as it did. -/
def reedAnyUptoRow : OpenClaim := { program := "ytkkohaojbijklaa", sum := "44791a847453f748cb125a965fffb0eaf9dac7b0f2e2ba9962e70c038ee2d15d", func := "wholemend/wholekeep.ReedAny", spec := "reedAny", apart := false, narrowed := true }
def ReedAnyUptoSaid : Prop := reedAnyUptoRow.holds Try.pinned (OpenSpec.upto reedAnySpec)

/-- 'wholekeep.WelchTells', WHERE WHAT IT READS IS OF BULK AT MOST 1048576: true; the input reads as it did. -/
def welchTellsUptoRow : OpenClaim := { program := "ytkkohaojbijklaa", sum := "44791a847453f748cb125a965fffb0eaf9dac7b0f2e2ba9962e70c038ee2d15d", func := "wholemend/wholekeep.WelchTells", spec := "welchTells", apart := false, narrowed := true }
def WelchTellsUptoSaid : Prop := welchTellsUptoRow.holds Try.pinned (OpenSpec.upto welchTellsSpec)

/-- 'wholekeep.WelchBack', WHERE WHAT IT READS IS OF BULK AT MOST 1048576: true; the input reads as it did. -/
def welchBackUptoRow : OpenClaim := { program := "ytkkohaojbijklaa", sum := "44791a847453f748cb125a965fffb0eaf9dac7b0f2e2ba9962e70c038ee2d15d", func := "wholemend/wholekeep.WelchBack", spec := "welchBack", apart := false, narrowed := true }
def WelchBackUptoSaid : Prop := welchBackUptoRow.holds Try.pinned (OpenSpec.upto welchBackSpec)

/-- 'wholekeep.PieceBack', WHERE WHAT IT READS IS OF BULK AT MOST 1048576: true; the input reads as it did. -/
def pieceBackUptoRow : OpenClaim := { program := "ytkkohaojbijklaa", sum := "44791a847453f748cb125a965fffb0eaf9dac7b0f2e2ba9962e70c038ee2d15d", func := "wholemend/wholekeep.PieceBack", spec := "pieceBack", apart := false, narrowed := true }
def PieceBackUptoSaid : Prop := pieceBackUptoRow.holds Try.pinned (OpenSpec.upto pieceBackSpec)

/-- 'wholekeep.PieceWrong', WHERE WHAT IT READS IS OF BULK AT MOST 1048576: true; the input reads as it did. -/
def pieceWrongUptoRow : OpenClaim := { program := "ytkkohaojbijklaa", sum := "44791a847453f748cb125a965fffb0eaf9dac7b0f2e2ba9962e70c038ee2d15d", func := "wholemend/wholekeep.PieceWrong", spec := "pieceWrong", apart := false, narrowed := true }
def PieceWrongUptoSaid : Prop := pieceWrongUptoRow.holds Try.pinned (OpenSpec.upto pieceWrongSpec)

/-- 'wholetop.TopPieces', WHERE WHAT IT READS IS OF BULK AT MOST 1048576: true; the input reads as it did. -/
def topPiecesUptoRow : OpenClaim := { program := "ytkkohaojbijklaa", sum := "44791a847453f748cb125a965fffb0eaf9dac7b0f2e2ba9962e70c038ee2d15d", func := "wholemend/wholetop.TopPieces", spec := "topPieces", unfollowed := true, recurses := true, apart := false, narrowed := true }
def TopPiecesUptoSaid : Prop := topPiecesUptoRow.holds Try.pinned (OpenSpec.upto topPiecesSpec)

end Rows
end Go.Proofs.Ytkkohaojbijklaa

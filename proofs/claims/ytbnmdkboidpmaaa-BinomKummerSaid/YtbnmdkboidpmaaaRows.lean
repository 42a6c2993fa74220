/-
  No cell of these rows narrows 'for every input' (looked for: loops, veiled, ifaces, maps, wideKeys, modest, calm, conditions, laid).
  DERIVED. THE GIVEN ROWS OF THIS SEAT. 12 by the template 'for every input the law returns true; each argument reads behind the call as it read before'; 0 by the template 'total and deterministic' (their statements: YtbnmdkboidpmaaaTotals.lean).
  GIVEN WITH THE SEED: the statements are not yours to turn. If you find one false, say at which input.
  Laid BY PROGRAM, IN A SANDBOX (cutbox-rows.mjs): the forced cells as the released guide's own fill.sh prints them over the translation 73adbf6e0876e3c3… (all of the seat's roots in one cut). By AI agents, Wed Nov 11 2026. No macro, syntax, notation, axiom, sorry.
-/
import Derived.Test.YtbnmdkboidpmaaaChecked
import GoSem.Claim
import GoSem.ClaimJoined
import GoSem.ClaimMapViews
import Derived.JoinedTies
import Derived.KernelRfl
namespace Go.Proofs.Ytbnmdkboidpmaaa
/- THE CELL 'sum', in the pinned program and in every row, IS THE sha256 OF THE DUMP (.gsa) THAT YtbnmdkboidpmaaaProg.lean LOADS. Nothing in Lean hashes anything: it is a label: what it is worth is what the hold of that sum in a sandbox is worth. -/
noncomputable def Try.pinned : Pinned := { name := "ytbnmdkboidpmaaa", sum := "73adbf6e0876e3c3907ff88e3402a1a9e317354ba9d1e0c0746795f5cefdd652", checked := Try.checked }
namespace Rows
def none {H : Type} : Left H := { results := [], args := [] }

/-- 'wholekeep.BinomLucas': WHATEVER THE INPUT: true; the input reads as it did. -/
def binomLucasSpec : ChangeSpec := { name := "binomLucas", fn := fun _ => fun
  | [d1, d2, d3] => { results := [.lit (.bool true)], args := [d1, d2, d3] }
  | _ => none }
def binomLucasRow : OpenClaim := { program := "ytbnmdkboidpmaaa", sum := "73adbf6e0876e3c3907ff88e3402a1a9e317354ba9d1e0c0746795f5cefdd652", func := "wholemend/wholekeep.BinomLucas", spec := "binomLucas", unfollowed := true, recurses := true, apart := false }
def BinomLucasSaid : Prop := binomLucasRow.holds Try.pinned (OpenSpec.ofChange binomLucasSpec)

/-- ITS FALSE NEIGHBOUR: 'it returns false'. Refute it at one input. -/
def binomLucasWrong : ChangeSpec := { name := "binomLucas", fn := fun _ => fun
  | [d1, d2, d3] => { results := [.lit (.bool false)], args := [d1, d2, d3] }
  | _ => none }
def BinomLucasWrongFalsely : Prop := binomLucasRow.holds Try.pinned (OpenSpec.ofChange binomLucasWrong)

/-- 'wholekeep.BinomKummer': WHATEVER THE INPUT: true; the input reads as it did. -/
def binomKummerSpec : ChangeSpec := { name := "binomKummer", fn := fun _ => fun
  | [d1, d2, d3] => { results := [.lit (.bool true)], args := [d1, d2, d3] }
  | _ => none }
def binomKummerRow : OpenClaim := { program := "ytbnmdkboidpmaaa", sum := "73adbf6e0876e3c3907ff88e3402a1a9e317354ba9d1e0c0746795f5cefdd652", func := "wholemend/wholekeep.BinomKummer", spec := "binomKummer", apart := false }
def BinomKummerSaid : Prop := binomKummerRow.holds Try.pinned (OpenSpec.ofChange binomKummerSpec)

/-- ITS FALSE NEIGHBOUR: 'it returns false'. Refute it at one input. -/
def binomKummerWrong : ChangeSpec := { name := "binomKummer", fn := fun _ => fun
  | [d1, d2, d3] => { results := [.lit (.bool false)], args := [d1, d2, d3] }
  | _ => none }
def BinomKummerWrongFalsely : Prop := binomKummerRow.holds Try.pinned (OpenSpec.ofChange binomKummerWrong)

/-- 'wholekeep.SquareEuler': WHATEVER THE INPUT: true; the input reads as it did. -/
def squareEulerSpec : ChangeSpec := { name := "squareEuler", fn := fun _ => fun
  | [d1, d2] => { results := [.lit (.bool true)], args := [d1, d2] }
  | _ => none }
def squareEulerRow : OpenClaim := { program := "ytbnmdkboidpmaaa", sum := "73adbf6e0876e3c3907ff88e3402a1a9e317354ba9d1e0c0746795f5cefdd652", func := "wholemend/wholekeep.SquareEuler", spec := "squareEuler", unfollowed := true, recurses := true, apart := false }
def SquareEulerSaid : Prop := squareEulerRow.holds Try.pinned (OpenSpec.ofChange squareEulerSpec)

/-- ITS FALSE NEIGHBOUR: 'it returns false'. Refute it at one input. -/
def squareEulerWrong : ChangeSpec := { name := "squareEuler", fn := fun _ => fun
  | [d1, d2] => { results := [.lit (.bool false)], args := [d1, d2] }
  | _ => none }
def SquareEulerWrongFalsely : Prop := squareEulerRow.holds Try.pinned (OpenSpec.ofChange squareEulerWrong)

/-- 'wholekeep.SquareRecip': WHATEVER THE INPUT: true; the input reads as it did. -/
def squareRecipSpec : ChangeSpec := { name := "squareRecip", fn := fun _ => fun
  | [d1, d2] => { results := [.lit (.bool true)], args := [d1, d2] }
  | _ => none }
def squareRecipRow : OpenClaim := { program := "ytbnmdkboidpmaaa", sum := "73adbf6e0876e3c3907ff88e3402a1a9e317354ba9d1e0c0746795f5cefdd652", func := "wholemend/wholekeep.SquareRecip", spec := "squareRecip", unfollowed := true, recurses := true, apart := false }
def SquareRecipSaid : Prop := squareRecipRow.holds Try.pinned (OpenSpec.ofChange squareRecipSpec)

/-- ITS FALSE NEIGHBOUR: 'it returns false'. Refute it at one input. -/
def squareRecipWrong : ChangeSpec := { name := "squareRecip", fn := fun _ => fun
  | [d1, d2] => { results := [.lit (.bool false)], args := [d1, d2] }
  | _ => none }
def SquareRecipWrongFalsely : Prop := squareRecipRow.holds Try.pinned (OpenSpec.ofChange squareRecipWrong)

/-- 'wholekeep.SquareTimes': WHATEVER THE INPUT: true; the input reads as it did. -/
def squareTimesSpec : ChangeSpec := { name := "squareTimes", fn := fun _ => fun
  | [d1, d2, d3, d4] => { results := [.lit (.bool true)], args := [d1, d2, d3, d4] }
  | _ => none }
def squareTimesRow : OpenClaim := { program := "ytbnmdkboidpmaaa", sum := "73adbf6e0876e3c3907ff88e3402a1a9e317354ba9d1e0c0746795f5cefdd652", func := "wholemend/wholekeep.SquareTimes", spec := "squareTimes", unfollowed := true, recurses := true, apart := false }
def SquareTimesSaid : Prop := squareTimesRow.holds Try.pinned (OpenSpec.ofChange squareTimesSpec)

/-- ITS FALSE NEIGHBOUR: 'it returns false'. Refute it at one input. -/
def squareTimesWrong : ChangeSpec := { name := "squareTimes", fn := fun _ => fun
  | [d1, d2, d3, d4] => { results := [.lit (.bool false)], args := [d1, d2, d3, d4] }
  | _ => none }
def SquareTimesWrongFalsely : Prop := squareTimesRow.holds Try.pinned (OpenSpec.ofChange squareTimesWrong)

/-- 'wholekeep.SquareMinus': WHATEVER THE INPUT: true; the input reads as it did. -/
def squareMinusSpec : ChangeSpec := { name := "squareMinus", fn := fun _ => fun
  | [d] => { results := [.lit (.bool true)], args := [d] }
  | _ => none }
def squareMinusRow : OpenClaim := { program := "ytbnmdkboidpmaaa", sum := "73adbf6e0876e3c3907ff88e3402a1a9e317354ba9d1e0c0746795f5cefdd652", func := "wholemend/wholekeep.SquareMinus", spec := "squareMinus", unfollowed := true, recurses := true, apart := false }
def SquareMinusSaid : Prop := squareMinusRow.holds Try.pinned (OpenSpec.ofChange squareMinusSpec)

/-- ITS FALSE NEIGHBOUR: 'it returns false'. Refute it at one input. -/
def squareMinusWrong : ChangeSpec := { name := "squareMinus", fn := fun _ => fun
  | [d] => { results := [.lit (.bool false)], args := [d] }
  | _ => none }
def SquareMinusWrongFalsely : Prop := squareMinusRow.holds Try.pinned (OpenSpec.ofChange squareMinusWrong)

/-- 'wholekeep.SquareRoot': WHATEVER THE INPUT: true; the input reads as it did. -/
def squareRootSpec : ChangeSpec := { name := "squareRoot", fn := fun _ => fun
  | [d1, d2] => { results := [.lit (.bool true)], args := [d1, d2] }
  | _ => none }
def squareRootRow : OpenClaim := { program := "ytbnmdkboidpmaaa", sum := "73adbf6e0876e3c3907ff88e3402a1a9e317354ba9d1e0c0746795f5cefdd652", func := "wholemend/wholekeep.SquareRoot", spec := "squareRoot", unfollowed := true, recurses := true, apart := false }
def SquareRootSaid : Prop := squareRootRow.holds Try.pinned (OpenSpec.ofChange squareRootSpec)

/-- ITS FALSE NEIGHBOUR: 'it returns false'. Refute it at one input. -/
def squareRootWrong : ChangeSpec := { name := "squareRoot", fn := fun _ => fun
  | [d1, d2] => { results := [.lit (.bool false)], args := [d1, d2] }
  | _ => none }
def SquareRootWrongFalsely : Prop := squareRootRow.holds Try.pinned (OpenSpec.ofChange squareRootWrong)

/-- 'wholekeep.SquareFermat': WHATEVER THE INPUT: true; the input reads as it did. -/
def squareFermatSpec : ChangeSpec := { name := "squareFermat", fn := fun _ => fun
  | [d] => { results := [.lit (.bool true)], args := [d] }
  | _ => none }
def squareFermatRow : OpenClaim := { program := "ytbnmdkboidpmaaa", sum := "73adbf6e0876e3c3907ff88e3402a1a9e317354ba9d1e0c0746795f5cefdd652", func := "wholemend/wholekeep.SquareFermat", spec := "squareFermat", apart := false }
def SquareFermatSaid : Prop := squareFermatRow.holds Try.pinned (OpenSpec.ofChange squareFermatSpec)

/-- ITS FALSE NEIGHBOUR: 'it returns false'. Refute it at one input. -/
def squareFermatWrong : ChangeSpec := { name := "squareFermat", fn := fun _ => fun
  | [d] => { results := [.lit (.bool false)], args := [d] }
  | _ => none }
def SquareFermatWrongFalsely : Prop := squareFermatRow.holds Try.pinned (OpenSpec.ofChange squareFermatWrong)

/-- 'wholekeep.FracBack': WHATEVER THE INPUT: true; the input reads as it did. -/
def fracBackSpec : ChangeSpec := { name := "fracBack", fn := fun _ => fun
  | [d] => { results := [.lit (.bool true)], args := [d] }
  | _ => none }
def fracBackRow : OpenClaim := { program := "ytbnmdkboidpmaaa", sum := "73adbf6e0876e3c3907ff88e3402a1a9e317354ba9d1e0c0746795f5cefdd652", func := "wholemend/wholekeep.FracBack", spec := "fracBack", unfollowed := true, recurses := true, apart := false }
def FracBackSaid : Prop := fracBackRow.holds Try.pinned (OpenSpec.ofChange fracBackSpec)

/-- ITS FALSE NEIGHBOUR: 'it returns false'. Refute it at one input. -/
def fracBackWrong : ChangeSpec := { name := "fracBack", fn := fun _ => fun
  | [d] => { results := [.lit (.bool false)], args := [d] }
  | _ => none }
def FracBackWrongFalsely : Prop := fracBackRow.holds Try.pinned (OpenSpec.ofChange fracBackWrong)

/-- 'wholekeep.FracTurns': WHATEVER THE INPUT: true; the input reads as it did. -/
def fracTurnsSpec : ChangeSpec := { name := "fracTurns", fn := fun _ => fun
  | [d1, d2] => { results := [.lit (.bool true)], args := [d1, d2] }
  | _ => none }
def fracTurnsRow : OpenClaim := { program := "ytbnmdkboidpmaaa", sum := "73adbf6e0876e3c3907ff88e3402a1a9e317354ba9d1e0c0746795f5cefdd652", func := "wholemend/wholekeep.FracTurns", spec := "fracTurns", unfollowed := true, recurses := true, apart := false }
def FracTurnsSaid : Prop := fracTurnsRow.holds Try.pinned (OpenSpec.ofChange fracTurnsSpec)

/-- ITS FALSE NEIGHBOUR: 'it returns false'. Refute it at one input. -/
def fracTurnsWrong : ChangeSpec := { name := "fracTurns", fn := fun _ => fun
  | [d1, d2] => { results := [.lit (.bool false)], args := [d1, d2] }
  | _ => none }
def FracTurnsWrongFalsely : Prop := fracTurnsRow.holds Try.pinned (OpenSpec.ofChange fracTurnsWrong)

/-- 'wholekeep.FracSides': WHATEVER THE INPUT: true; the input reads as it did. -/
def fracSidesSpec : ChangeSpec := { name := "fracSides", fn := fun _ => fun
  | [d1, d2, d3] => { results := [.lit (.bool true)], args := [d1, d2, d3] }
  | _ => none }
def fracSidesRow : OpenClaim := { program := "ytbnmdkboidpmaaa", sum := "73adbf6e0876e3c3907ff88e3402a1a9e317354ba9d1e0c0746795f5cefdd652", func := "wholemend/wholekeep.FracSides", spec := "fracSides", apart := false }
def FracSidesSaid : Prop := fracSidesRow.holds Try.pinned (OpenSpec.ofChange fracSidesSpec)

/-- ITS FALSE NEIGHBOUR: 'it returns false'. Refute it at one input. -/
def fracSidesWrong : ChangeSpec := { name := "fracSides", fn := fun _ => fun
  | [d1, d2, d3] => { results := [.lit (.bool false)], args := [d1, d2, d3] }
  | _ => none }
def FracSidesWrongFalsely : Prop := fracSidesRow.holds Try.pinned (OpenSpec.ofChange fracSidesWrong)

/-- 'wholekeep.FracFarey': WHATEVER THE INPUT: true; the input reads as it did. -/
def fracFareySpec : ChangeSpec := { name := "fracFarey", fn := fun _ => fun
  | [d] => { results := [.lit (.bool true)], args := [d] }
  | _ => none }
def fracFareyRow : OpenClaim := { program := "ytbnmdkboidpmaaa", sum := "73adbf6e0876e3c3907ff88e3402a1a9e317354ba9d1e0c0746795f5cefdd652", func := "wholemend/wholekeep.FracFarey", spec := "fracFarey", unfollowed := true, recurses := true, apart := false }
def FracFareySaid : Prop := fracFareyRow.holds Try.pinned (OpenSpec.ofChange fracFareySpec)

/-- ITS FALSE NEIGHBOUR: 'it returns false'. Refute it at one input. -/
def fracFareyWrong : ChangeSpec := { name := "fracFarey", fn := fun _ => fun
  | [d] => { results := [.lit (.bool false)], args := [d] }
  | _ => none }
def FracFareyWrongFalsely : Prop := fracFareyRow.holds Try.pinned (OpenSpec.ofChange fracFareyWrong)

/- THE SECOND FORM. 'bulk': how many values and letters a reading holds, each counted each time it is reached (what is shared counts as often as it is met; a slice's spare places count too). A statement '..UptoSaid' is the law's where the arguments, and the package variables that the reading takes, are together of bulk at most 1048576: NARROWER than '..Said'. Prove '..Said' where nothing that the law and all that it calls make is longer than what came in: it says more and counts as full. Else prove '..UptoSaid'. A law counts once. -/
mutual
def uptoBulk {H : Type} : DataW H → Nat
  | .lit (.string bytes) => bytes.length + 1
  | .lit _ => 1
  | .nil => 1
  | .ptr d => uptoBulk d + 1
  | .slice elems spare => uptoBulkAll elems + uptoBulkAll spare + 1
  | .agg parts => uptoBulkAll parts + 1
  | .iface _ d => uptoBulk d + 1
  | .map entries => uptoBulkEntries entries + 1
  | .held _ => 1
def uptoBulkAll {H : Type} : List (DataW H) → Nat
  | [] => 0
  | d :: r => uptoBulk d + uptoBulkAll r
def uptoBulkEntries {H : Type} : List (Lit × DataW H) → Nat
  | [] => 0
  | x :: r => uptoBulkEntry x + uptoBulkEntries r
def uptoBulkEntry {H : Type} : Lit × DataW H → Nat
  | (.string bytes, d) => bytes.length + uptoBulk d + 1
  | (_, d) => uptoBulk d + 1
 end
def uptoSmall : (H : Type) → List (DataW H) → Bool := fun _ ds => decide (uptoBulkAll ds ≤ 1048576)
def OpenSpec.upto (s : _root_.Go.ChangeSpec) : _root_.Go.OpenSpec := { _root_.Go.OpenSpec.ofChange s with cond := some uptoSmall }

/-- 'wholekeep.BinomLucas', WHERE WHAT IT READS IS OF BULK AT MOST 1048576: true; the input reads as it did. -/
def binomLucasUptoRow : OpenClaim := { program := "ytbnmdkboidpmaaa", sum := "73adbf6e0876e3c3907ff88e3402a1a9e317354ba9d1e0c0746795f5cefdd652", func := "wholemend/wholekeep.BinomLucas", spec := "binomLucas", unfollowed := true, recurses := true, apart := false, narrowed := true }
def BinomLucasUptoSaid : Prop := binomLucasUptoRow.holds Try.pinned (OpenSpec.upto binomLucasSpec)

/-- 'wholekeep.BinomKummer', WHERE WHAT IT READS IS OF BULK AT MOST 1048576: true; the input reads as it did. -/
def binomKummerUptoRow : OpenClaim := { program := "ytbnmdkboidpmaaa", sum := "73adbf6e0876e3c3907ff88e3402a1a9e317354ba9d1e0c0746795f5cefdd652", func := "wholemend/wholekeep.BinomKummer", spec := "binomKummer", apart := false, narrowed := true }
def BinomKummerUptoSaid : Prop := binomKummerUptoRow.holds Try.pinned (OpenSpec.upto binomKummerSpec)

/-- 'wholekeep.SquareEuler', WHERE WHAT IT READS IS OF BULK AT MOST 1048576: true; the input reads as it did. -/
def squareEulerUptoRow : OpenClaim := { program := "ytbnmdkboidpmaaa", sum := "73adbf6e0876e3c3907ff88e3402a1a9e317354ba9d1e0c0746795f5cefdd652", func := "wholemend/wholekeep.SquareEuler", spec := "squareEuler", unfollowed := true, recurses := true, apart := false, narrowed := true }
def SquareEulerUptoSaid : Prop := squareEulerUptoRow.holds Try.pinned (OpenSpec.upto squareEulerSpec)

/-- 'wholekeep.SquareRecip', WHERE WHAT IT READS IS OF BULK AT MOST 1048576: true; the input reads as it did. -/
def squareRecipUptoRow : OpenClaim := { program := "ytbnmdkboidpmaaa", sum := "73adbf6e0876e3c3907ff88e3402a1a9e317354ba9d1e0c0746795f5cefdd652", func := "wholemend/wholekeep.SquareRecip", spec := "squareRecip", unfollowed := true, recurses := true, apart := false, narrowed := true }
def SquareRecipUptoSaid : Prop := squareRecipUptoRow.holds Try.pinned (OpenSpec.upto squareRecipSpec)

/-- 'wholekeep.SquareTimes', WHERE WHAT IT READS IS OF BULK AT MOST 1048576: true; the input reads as it did. -/
def squareTimesUptoRow : OpenClaim := { program := "ytbnmdkboidpmaaa", sum := "73adbf6e0876e3c3907ff88e3402a1a9e317354ba9d1e0c0746795f5cefdd652", func := "wholemend/wholekeep.SquareTimes", spec := "squareTimes", unfollowed := true, recurses := true, apart := false, narrowed := true }
def SquareTimesUptoSaid : Prop := squareTimesUptoRow.holds Try.pinned (OpenSpec.upto squareTimesSpec)

/-- 'wholekeep.SquareMinus', WHERE WHAT IT READS IS OF BULK AT MOST 1048576: true; the input reads as it did. -/
def squareMinusUptoRow : OpenClaim := { program := "ytbnmdkboidpmaaa", sum := "73adbf6e0876e3c3907ff88e3402a1a9e317354ba9d1e0c0746795f5cefdd652", func := "wholemend/wholekeep.SquareMinus", spec := "squareMinus", unfollowed := true, recurses := true, apart := false, narrowed := true }
def SquareMinusUptoSaid : Prop := squareMinusUptoRow.holds Try.pinned (OpenSpec.upto squareMinusSpec)

/-- 'wholekeep.SquareRoot', WHERE WHAT IT READS IS OF BULK AT MOST 1048576: true; the input reads as it did. -/
def squareRootUptoRow : OpenClaim := { program := "ytbnmdkboidpmaaa", sum := "73adbf6e0876e3c3907ff88e3402a1a9e317354ba9d1e0c0746795f5cefdd652", func := "wholemend/wholekeep.SquareRoot", spec := "squareRoot", unfollowed := true, recurses := true, apart := false, narrowed := true }
def SquareRootUptoSaid : Prop := squareRootUptoRow.holds Try.pinned (OpenSpec.upto squareRootSpec)

/-- 'wholekeep.SquareFermat', WHERE WHAT IT READS IS OF BULK AT MOST 1048576: true; the input reads as it did. -/
def squareFermatUptoRow : OpenClaim := { program := "ytbnmdkboidpmaaa", sum := "73adbf6e0876e3c3907ff88e3402a1a9e317354ba9d1e0c0746795f5cefdd652", func := "wholemend/wholekeep.SquareFermat", spec := "squareFermat", apart := false, narrowed := true }
def SquareFermatUptoSaid : Prop := squareFermatUptoRow.holds Try.pinned (OpenSpec.upto squareFermatSpec)

/-- 'wholekeep.FracBack', WHERE WHAT IT READS IS OF BULK AT MOST 1048576: true; the input reads as it did. -/
def fracBackUptoRow : OpenClaim := { program := "ytbnmdkboidpmaaa", sum := "73adbf6e0876e3c3907ff88e3402a1a9e317354ba9d1e0c0746795f5cefdd652", func := "wholemend/wholekeep.FracBack", spec := "fracBack", unfollowed := true, recurses := true, apart := false, narrowed := true }
def FracBackUptoSaid : Prop := fracBackUptoRow.holds Try.pinned (OpenSpec.upto fracBackSpec)

/-- 'wholekeep.FracTurns', WHERE WHAT IT READS IS OF BULK AT MOST 1048576: true; the input reads as it did. -/
def fracTurnsUptoRow : OpenClaim := { program := "ytbnmdkboidpmaaa", sum := "73adbf6e0876e3c3907ff88e3402a1a9e317354ba9d1e0c0746795f5cefdd652", func := "wholemend/wholekeep.FracTurns", spec := "fracTurns", unfollowed := true, recurses := true, apart := false, narrowed := true }
def FracTurnsUptoSaid : Prop := fracTurnsUptoRow.holds Try.pinned (OpenSpec.upto fracTurnsSpec)

/-- 'wholekeep.FracSides', WHERE WHAT IT READS IS OF BULK AT MOST 1048576: true; the input reads as it did. -/
def fracSidesUptoRow : OpenClaim := { program := "ytbnmdkboidpmaaa", sum := "73adbf6e0876e3c3907ff88e3402a1a9e317354ba9d1e0c0746795f5cefdd652", func := "wholemend/wholekeep.FracSides", spec := "fracSides", apart := false, narrowed := true }
def FracSidesUptoSaid : Prop := fracSidesUptoRow.holds Try.pinned (OpenSpec.upto fracSidesSpec)

/-- 'wholekeep.FracFarey', WHERE WHAT IT READS IS OF BULK AT MOST 1048576: true; the input reads as it did. -/
def fracFareyUptoRow : OpenClaim := { program := "ytbnmdkboidpmaaa", sum := "73adbf6e0876e3c3907ff88e3402a1a9e317354ba9d1e0c0746795f5cefdd652", func := "wholemend/wholekeep.FracFarey", spec := "fracFarey", unfollowed := true, recurses := true, apart := false, narrowed := true }
def FracFareyUptoSaid : Prop := fracFareyUptoRow.holds Try.pinned (OpenSpec.upto fracFareySpec)

end Rows
end Go.Proofs.Ytbnmdkboidpmaaa

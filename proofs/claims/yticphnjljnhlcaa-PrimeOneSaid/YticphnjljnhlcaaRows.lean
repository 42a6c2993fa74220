/-
  No cell of these rows narrows 'for every input' (looked for: loops, veiled, ifaces, maps, wideKeys, modest, calm, conditions, laid).
  DERIVED. THE GIVEN ROWS OF THIS SEAT. 12 by the template 'for every input the law returns true; each argument reads behind the call as it read before'; 0 by the template 'total and deterministic' (their statements: YticphnjljnhlcaaTotals.lean).
  GIVEN WITH THE SEED: the statements are not yours to turn. If you find one false, say at which input.
  Laid BY PROGRAM, IN A SANDBOX (cutbox-rows.mjs): the forced cells as the released guide's own fill.sh prints them over the translation 4fdb1916340c4b20… (all of the seat's roots in one cut). By AI agents, Wed Nov 11 2026. No macro, syntax, notation, axiom, sorry.
-/
import Derived.Test.YticphnjljnhlcaaChecked
import GoSem.Claim
import GoSem.ClaimJoined
import GoSem.ClaimMapViews
import Derived.JoinedTies
import Derived.KernelRfl
namespace Go.Proofs.Yticphnjljnhlcaa
/- THE CELL 'sum', in the pinned program and in every row, IS THE sha256 OF THE DUMP (.gsa) THAT YticphnjljnhlcaaProg.lean LOADS. Nothing in Lean hashes anything: it is a label: what it is worth is what the hold of that sum in a sandbox is worth. -/
noncomputable def Try.pinned : Pinned := { name := "yticphnjljnhlcaa", sum := "4fdb1916340c4b207f619211907d08d4f1315ffd272a41bb636fa893c3f93d13", checked := Try.checked }
namespace Rows
def none {H : Type} : Left H := { results := [], args := [] }

/-- 'wholekeep.PrimeOne': WHATEVER THE INPUT: true; the input reads as it did. -/
def primeOneSpec : ChangeSpec := { name := "primeOne", fn := fun _ => fun
  | [d1, d2] => { results := [.lit (.bool true)], args := [d1, d2] }
  | _ => none }
def primeOneRow : OpenClaim := { program := "yticphnjljnhlcaa", sum := "4fdb1916340c4b207f619211907d08d4f1315ffd272a41bb636fa893c3f93d13", func := "wholemend/wholekeep.PrimeOne", spec := "primeOne", unfollowed := true, recurses := true, apart := false }
def PrimeOneSaid : Prop := primeOneRow.holds Try.pinned (OpenSpec.ofChange primeOneSpec)

/-- ITS FALSE NEIGHBOUR: 'it returns false'. Refute it at one input. -/
def primeOneWrong : ChangeSpec := { name := "primeOne", fn := fun _ => fun
  | [d1, d2] => { results := [.lit (.bool false)], args := [d1, d2] }
  | _ => none }
def PrimeOneWrongFalsely : Prop := primeOneRow.holds Try.pinned (OpenSpec.ofChange primeOneWrong)

/-- 'wholekeep.DivideGauss': WHATEVER THE INPUT: true; the input reads as it did. -/
def divideGaussSpec : ChangeSpec := { name := "divideGauss", fn := fun _ => fun
  | [d] => { results := [.lit (.bool true)], args := [d] }
  | _ => none }
def divideGaussRow : OpenClaim := { program := "yticphnjljnhlcaa", sum := "4fdb1916340c4b207f619211907d08d4f1315ffd272a41bb636fa893c3f93d13", func := "wholemend/wholekeep.DivideGauss", spec := "divideGauss", recurses := true, apart := false }
def DivideGaussSaid : Prop := divideGaussRow.holds Try.pinned (OpenSpec.ofChange divideGaussSpec)

/-- ITS FALSE NEIGHBOUR: 'it returns false'. Refute it at one input. -/
def divideGaussWrong : ChangeSpec := { name := "divideGauss", fn := fun _ => fun
  | [d] => { results := [.lit (.bool false)], args := [d] }
  | _ => none }
def DivideGaussWrongFalsely : Prop := divideGaussRow.holds Try.pinned (OpenSpec.ofChange divideGaussWrong)

/-- 'wholekeep.DivideNone': WHATEVER THE INPUT: true; the input reads as it did. -/
def divideNoneSpec : ChangeSpec := { name := "divideNone", fn := fun _ => fun
  | [d] => { results := [.lit (.bool true)], args := [d] }
  | _ => none }
def divideNoneRow : OpenClaim := { program := "yticphnjljnhlcaa", sum := "4fdb1916340c4b207f619211907d08d4f1315ffd272a41bb636fa893c3f93d13", func := "wholemend/wholekeep.DivideNone", spec := "divideNone", recurses := true, apart := false }
def DivideNoneSaid : Prop := divideNoneRow.holds Try.pinned (OpenSpec.ofChange divideNoneSpec)

/-- ITS FALSE NEIGHBOUR: 'it returns false'. Refute it at one input. -/
def divideNoneWrong : ChangeSpec := { name := "divideNone", fn := fun _ => fun
  | [d] => { results := [.lit (.bool false)], args := [d] }
  | _ => none }
def DivideNoneWrongFalsely : Prop := divideNoneRow.holds Try.pinned (OpenSpec.ofChange divideNoneWrong)

/-- 'wholekeep.DivideTimes': WHATEVER THE INPUT: true; the input reads as it did. -/
def divideTimesSpec : ChangeSpec := { name := "divideTimes", fn := fun _ => fun
  | [d1, d2] => { results := [.lit (.bool true)], args := [d1, d2] }
  | _ => none }
def divideTimesRow : OpenClaim := { program := "yticphnjljnhlcaa", sum := "4fdb1916340c4b207f619211907d08d4f1315ffd272a41bb636fa893c3f93d13", func := "wholemend/wholekeep.DivideTimes", spec := "divideTimes", unfollowed := true, recurses := true, apart := false }
def DivideTimesSaid : Prop := divideTimesRow.holds Try.pinned (OpenSpec.ofChange divideTimesSpec)

/-- ITS FALSE NEIGHBOUR: 'it returns false'. Refute it at one input. -/
def divideTimesWrong : ChangeSpec := { name := "divideTimes", fn := fun _ => fun
  | [d1, d2] => { results := [.lit (.bool false)], args := [d1, d2] }
  | _ => none }
def DivideTimesWrongFalsely : Prop := divideTimesRow.holds Try.pinned (OpenSpec.ofChange divideTimesWrong)

/-- 'wholekeep.DividePairs': WHATEVER THE INPUT: true; the input reads as it did. -/
def dividePairsSpec : ChangeSpec := { name := "dividePairs", fn := fun _ => fun
  | [d] => { results := [.lit (.bool true)], args := [d] }
  | _ => none }
def dividePairsRow : OpenClaim := { program := "yticphnjljnhlcaa", sum := "4fdb1916340c4b207f619211907d08d4f1315ffd272a41bb636fa893c3f93d13", func := "wholemend/wholekeep.DividePairs", spec := "dividePairs", recurses := true, apart := false }
def DividePairsSaid : Prop := dividePairsRow.holds Try.pinned (OpenSpec.ofChange dividePairsSpec)

/-- ITS FALSE NEIGHBOUR: 'it returns false'. Refute it at one input. -/
def dividePairsWrong : ChangeSpec := { name := "dividePairs", fn := fun _ => fun
  | [d] => { results := [.lit (.bool false)], args := [d] }
  | _ => none }
def DividePairsWrongFalsely : Prop := dividePairsRow.holds Try.pinned (OpenSpec.ofChange dividePairsWrong)

/-- 'wholekeep.DivideBack': WHATEVER THE INPUT: true; the input reads as it did. -/
def divideBackSpec : ChangeSpec := { name := "divideBack", fn := fun _ => fun
  | [d] => { results := [.lit (.bool true)], args := [d] }
  | _ => none }
def divideBackRow : OpenClaim := { program := "yticphnjljnhlcaa", sum := "4fdb1916340c4b207f619211907d08d4f1315ffd272a41bb636fa893c3f93d13", func := "wholemend/wholekeep.DivideBack", spec := "divideBack", unfollowed := true, recurses := true, apart := false }
def DivideBackSaid : Prop := divideBackRow.holds Try.pinned (OpenSpec.ofChange divideBackSpec)

/-- ITS FALSE NEIGHBOUR: 'it returns false'. Refute it at one input. -/
def divideBackWrong : ChangeSpec := { name := "divideBack", fn := fun _ => fun
  | [d] => { results := [.lit (.bool false)], args := [d] }
  | _ => none }
def DivideBackWrongFalsely : Prop := divideBackRow.holds Try.pinned (OpenSpec.ofChange divideBackWrong)

/-- 'wholekeep.RestEuler': WHATEVER THE INPUT: true; the input reads as it did. -/
def restEulerSpec : ChangeSpec := { name := "restEuler", fn := fun _ => fun
  | [d1, d2] => { results := [.lit (.bool true)], args := [d1, d2] }
  | _ => none }
def restEulerRow : OpenClaim := { program := "yticphnjljnhlcaa", sum := "4fdb1916340c4b207f619211907d08d4f1315ffd272a41bb636fa893c3f93d13", func := "wholemend/wholekeep.RestEuler", spec := "restEuler", unfollowed := true, recurses := true, apart := false }
def RestEulerSaid : Prop := restEulerRow.holds Try.pinned (OpenSpec.ofChange restEulerSpec)

/-- ITS FALSE NEIGHBOUR: 'it returns false'. Refute it at one input. -/
def restEulerWrong : ChangeSpec := { name := "restEuler", fn := fun _ => fun
  | [d1, d2] => { results := [.lit (.bool false)], args := [d1, d2] }
  | _ => none }
def RestEulerWrongFalsely : Prop := restEulerRow.holds Try.pinned (OpenSpec.ofChange restEulerWrong)

/-- 'wholekeep.ChineseBack': WHATEVER THE INPUT: true; the input reads as it did. -/
def chineseBackSpec : ChangeSpec := { name := "chineseBack", fn := fun _ => fun
  | [d1, d2] => { results := [.lit (.bool true)], args := [d1, d2] }
  | _ => none }
def chineseBackRow : OpenClaim := { program := "yticphnjljnhlcaa", sum := "4fdb1916340c4b207f619211907d08d4f1315ffd272a41bb636fa893c3f93d13", func := "wholemend/wholekeep.ChineseBack", spec := "chineseBack", apart := false }
def ChineseBackSaid : Prop := chineseBackRow.holds Try.pinned (OpenSpec.ofChange chineseBackSpec)

/-- ITS FALSE NEIGHBOUR: 'it returns false'. Refute it at one input. -/
def chineseBackWrong : ChangeSpec := { name := "chineseBack", fn := fun _ => fun
  | [d1, d2] => { results := [.lit (.bool false)], args := [d1, d2] }
  | _ => none }
def ChineseBackWrongFalsely : Prop := chineseBackRow.holds Try.pinned (OpenSpec.ofChange chineseBackWrong)

/-- 'wholekeep.ChineseOne': WHATEVER THE INPUT: true; the input reads as it did. -/
def chineseOneSpec : ChangeSpec := { name := "chineseOne", fn := fun _ => fun
  | [d1, d2] => { results := [.lit (.bool true)], args := [d1, d2] }
  | _ => none }
def chineseOneRow : OpenClaim := { program := "yticphnjljnhlcaa", sum := "4fdb1916340c4b207f619211907d08d4f1315ffd272a41bb636fa893c3f93d13", func := "wholemend/wholekeep.ChineseOne", spec := "chineseOne", unfollowed := true, recurses := true, apart := false }
def ChineseOneSaid : Prop := chineseOneRow.holds Try.pinned (OpenSpec.ofChange chineseOneSpec)

/-- ITS FALSE NEIGHBOUR: 'it returns false'. Refute it at one input. -/
def chineseOneWrong : ChangeSpec := { name := "chineseOne", fn := fun _ => fun
  | [d1, d2] => { results := [.lit (.bool false)], args := [d1, d2] }
  | _ => none }
def ChineseOneWrongFalsely : Prop := chineseOneRow.holds Try.pinned (OpenSpec.ofChange chineseOneWrong)

/-- 'wholekeep.ChineseOrder': WHATEVER THE INPUT: true; the input reads as it did. -/
def chineseOrderSpec : ChangeSpec := { name := "chineseOrder", fn := fun _ => fun
  | [d1, d2] => { results := [.lit (.bool true)], args := [d1, d2] }
  | _ => none }
def chineseOrderRow : OpenClaim := { program := "yticphnjljnhlcaa", sum := "4fdb1916340c4b207f619211907d08d4f1315ffd272a41bb636fa893c3f93d13", func := "wholemend/wholekeep.ChineseOrder", spec := "chineseOrder", apart := false }
def ChineseOrderSaid : Prop := chineseOrderRow.holds Try.pinned (OpenSpec.ofChange chineseOrderSpec)

/-- ITS FALSE NEIGHBOUR: 'it returns false'. Refute it at one input. -/
def chineseOrderWrong : ChangeSpec := { name := "chineseOrder", fn := fun _ => fun
  | [d1, d2] => { results := [.lit (.bool false)], args := [d1, d2] }
  | _ => none }
def ChineseOrderWrongFalsely : Prop := chineseOrderRow.holds Try.pinned (OpenSpec.ofChange chineseOrderWrong)

/-- 'wholekeep.BinomPascal': WHATEVER THE INPUT: true; the input reads as it did. -/
def binomPascalSpec : ChangeSpec := { name := "binomPascal", fn := fun _ => fun
  | [d1, d2] => { results := [.lit (.bool true)], args := [d1, d2] }
  | _ => none }
def binomPascalRow : OpenClaim := { program := "yticphnjljnhlcaa", sum := "4fdb1916340c4b207f619211907d08d4f1315ffd272a41bb636fa893c3f93d13", func := "wholemend/wholekeep.BinomPascal", spec := "binomPascal", unfollowed := true, recurses := true, apart := false }
def BinomPascalSaid : Prop := binomPascalRow.holds Try.pinned (OpenSpec.ofChange binomPascalSpec)

/-- ITS FALSE NEIGHBOUR: 'it returns false'. Refute it at one input. -/
def binomPascalWrong : ChangeSpec := { name := "binomPascal", fn := fun _ => fun
  | [d1, d2] => { results := [.lit (.bool false)], args := [d1, d2] }
  | _ => none }
def BinomPascalWrongFalsely : Prop := binomPascalRow.holds Try.pinned (OpenSpec.ofChange binomPascalWrong)

/-- 'wholekeep.BinomVander': WHATEVER THE INPUT: true; the input reads as it did. -/
def binomVanderSpec : ChangeSpec := { name := "binomVander", fn := fun _ => fun
  | [d1, d2, d3] => { results := [.lit (.bool true)], args := [d1, d2, d3] }
  | _ => none }
def binomVanderRow : OpenClaim := { program := "yticphnjljnhlcaa", sum := "4fdb1916340c4b207f619211907d08d4f1315ffd272a41bb636fa893c3f93d13", func := "wholemend/wholekeep.BinomVander", spec := "binomVander", unfollowed := true, recurses := true, apart := false }
def BinomVanderSaid : Prop := binomVanderRow.holds Try.pinned (OpenSpec.ofChange binomVanderSpec)

/-- ITS FALSE NEIGHBOUR: 'it returns false'. Refute it at one input. -/
def binomVanderWrong : ChangeSpec := { name := "binomVander", fn := fun _ => fun
  | [d1, d2, d3] => { results := [.lit (.bool false)], args := [d1, d2, d3] }
  | _ => none }
def BinomVanderWrongFalsely : Prop := binomVanderRow.holds Try.pinned (OpenSpec.ofChange binomVanderWrong)

/- THE SECOND FORM. 'bulk': how many values and letters a reading holds, each counted each time it is reached (what is shared counts as often as it is met; a slice's spare places count too). A statement '..UptoSaid' is the law's where the arguments, and the package variables that the reading takes, are together of bulk at most 1048576: NARROWER than '..Said'. Prove '..Said' where nothing that the law and all that it calls make is longer than what came in: it says more and counts as full. Else prove '..UptoSaid'. A law counts once. -/
mutual
def uptoBulk {H : Type} : DataW H → Nat
  | .lit (.string bytes) => bytes.length + 1
  | .lit _ => 1
  | .nil => 1
  | .ptr d => uptoBulk d + 1
  | .slice elems spare => uptoBulkAll elems + uptoBulkAll spare + 1
  | .agg parts => uptoBulkAll parts + 1
  | .iface _ d => uptoBulk d + 1
  | .map entries => uptoBulkEntries entries + 1
  | .held _ => 1
def uptoBulkAll {H : Type} : List (DataW H) → Nat
  | [] => 0
  | d :: r => uptoBulk d + uptoBulkAll r
def uptoBulkEntries {H : Type} : List (Lit × DataW H) → Nat
  | [] => 0
  | x :: r => uptoBulkEntry x + uptoBulkEntries r
def uptoBulkEntry {H : Type} : Lit × DataW H → Nat
  | (.string bytes, d) => bytes.length + uptoBulk d + 1
  | (_, d) => uptoBulk d + 1
 end
def uptoSmall : (H : Type) → List (DataW H) → Bool := fun _ ds => decide (uptoBulkAll ds ≤ 1048576)
def OpenSpec.upto (s : _root_.Go.ChangeSpec) : _root_.Go.OpenSpec := { _root_.Go.OpenSpec.ofChange s with cond := some uptoSmall }

/-- 'wholekeep.PrimeOne', WHERE WHAT IT READS IS OF BULK AT MOST 1048576: true; the input reads as it did. -/
def primeOneUptoRow : OpenClaim := { program := "yticphnjljnhlcaa", sum := "4fdb1916340c4b207f619211907d08d4f1315ffd272a41bb636fa893c3f93d13", func := "wholemend/wholekeep.PrimeOne", spec := "primeOne", unfollowed := true, recurses := true, apart := false, narrowed := true }
def PrimeOneUptoSaid : Prop := primeOneUptoRow.holds Try.pinned (OpenSpec.upto primeOneSpec)

/-- 'wholekeep.DivideGauss', WHERE WHAT IT READS IS OF BULK AT MOST 1048576: true; the input reads as it did. -/
def divideGaussUptoRow : OpenClaim := { program := "yticphnjljnhlcaa", sum := "4fdb1916340c4b207f619211907d08d4f1315ffd272a41bb636fa893c3f93d13", func := "wholemend/wholekeep.DivideGauss", spec := "divideGauss", recurses := true, apart := false, narrowed := true }
def DivideGaussUptoSaid : Prop := divideGaussUptoRow.holds Try.pinned (OpenSpec.upto divideGaussSpec)

/-- 'wholekeep.DivideNone', WHERE WHAT IT READS IS OF BULK AT MOST 1048576: true; the input reads as it did. -/
def divideNoneUptoRow : OpenClaim := { program := "yticphnjljnhlcaa", sum := "4fdb1916340c4b207f619211907d08d4f1315ffd272a41bb636fa893c3f93d13", func := "wholemend/wholekeep.DivideNone", spec := "divideNone", recurses := true, apart := false, narrowed := true }
def DivideNoneUptoSaid : Prop := divideNoneUptoRow.holds Try.pinned (OpenSpec.upto divideNoneSpec)

/-- 'wholekeep.DivideTimes', WHERE WHAT IT READS IS OF BULK AT MOST 1048576: true; the input reads as it did. -/
def divideTimesUptoRow : OpenClaim := { program := "yticphnjljnhlcaa", sum := "4fdb1916340c4b207f619211907d08d4f1315ffd272a41bb636fa893c3f93d13", func := "wholemend/wholekeep.DivideTimes", spec := "divideTimes", unfollowed := true, recurses := true, apart := false, narrowed := true }
def DivideTimesUptoSaid : Prop := divideTimesUptoRow.holds Try.pinned (OpenSpec.upto divideTimesSpec)

/-- 'wholekeep.DividePairs', WHERE WHAT IT READS IS OF BULK AT MOST 1048576: true; the input reads as it did. -/
def dividePairsUptoRow : OpenClaim := { program := "yticphnjljnhlcaa", sum := "4fdb1916340c4b207f619211907d08d4f1315ffd272a41bb636fa893c3f93d13", func := "wholemend/wholekeep.DividePairs", spec := "dividePairs", recurses := true, apart := false, narrowed := true }
def DividePairsUptoSaid : Prop := dividePairsUptoRow.holds Try.pinned (OpenSpec.upto dividePairsSpec)

/-- 'wholekeep.DivideBack', WHERE WHAT IT READS IS OF BULK AT MOST 1048576: true; the input reads as it did. -/
def divideBackUptoRow : OpenClaim := { program := "yticphnjljnhlcaa", sum := "4fdb1916340c4b207f619211907d08d4f1315ffd272a41bb636fa893c3f93d13", func := "wholemend/wholekeep.DivideBack", spec := "divideBack", unfollowed := true, recurses := true, apart := false, narrowed := true }
def DivideBackUptoSaid : Prop := divideBackUptoRow.holds Try.pinned (OpenSpec.upto divideBackSpec)

/-- 'wholekeep.RestEuler', WHERE WHAT IT READS IS OF BULK AT MOST 1048576: true; the input reads as it did. -/
def restEulerUptoRow : OpenClaim := { program := "yticphnjljnhlcaa", sum := "4fdb1916340c4b207f619211907d08d4f1315ffd272a41bb636fa893c3f93d13", func := "wholemend/wholekeep.RestEuler", spec := "restEuler", unfollowed := true, recurses := true, apart := false, narrowed := true }
def RestEulerUptoSaid : Prop := restEulerUptoRow.holds Try.pinned (OpenSpec.upto restEulerSpec)

/-- 'wholekeep.ChineseBack', WHERE WHAT IT READS IS OF BULK AT MOST 1048576: true; the input reads as it did. -/
def chineseBackUptoRow : OpenClaim := { program := "yticphnjljnhlcaa", sum := "4fdb1916340c4b207f619211907d08d4f1315ffd272a41bb636fa893c3f93d13", func := "wholemend/wholekeep.ChineseBack", spec := "chineseBack", apart := false, narrowed := true }
def ChineseBackUptoSaid : Prop := chineseBackUptoRow.holds Try.pinned (OpenSpec.upto chineseBackSpec)

/-- 'wholekeep.ChineseOne', WHERE WHAT IT READS IS OF BULK AT MOST 1048576: true; the input reads as it did. -/
def chineseOneUptoRow : OpenClaim := { program := "yticphnjljnhlcaa", sum := "4fdb1916340c4b207f619211907d08d4f1315ffd272a41bb636fa893c3f93d13", func := "wholemend/wholekeep.ChineseOne", spec := "chineseOne", unfollowed := true, recurses := true, apart := false, narrowed := true }
def ChineseOneUptoSaid : Prop := chineseOneUptoRow.holds Try.pinned (OpenSpec.upto chineseOneSpec)

/-- 'wholekeep.ChineseOrder', WHERE WHAT IT READS IS OF BULK AT MOST 1048576: true; the input reads as it did. -/
def chineseOrderUptoRow : OpenClaim := { program := "yticphnjljnhlcaa", sum := "4fdb1916340c4b207f619211907d08d4f1315ffd272a41bb636fa893c3f93d13", func := "wholemend/wholekeep.ChineseOrder", spec := "chineseOrder", apart := false, narrowed := true }
def ChineseOrderUptoSaid : Prop := chineseOrderUptoRow.holds Try.pinned (OpenSpec.upto chineseOrderSpec)

/-- 'wholekeep.BinomPascal', WHERE WHAT IT READS IS OF BULK AT MOST 1048576: true; the input reads as it did. -/
def binomPascalUptoRow : OpenClaim := { program := "yticphnjljnhlcaa", sum := "4fdb1916340c4b207f619211907d08d4f1315ffd272a41bb636fa893c3f93d13", func := "wholemend/wholekeep.BinomPascal", spec := "binomPascal", unfollowed := true, recurses := true, apart := false, narrowed := true }
def BinomPascalUptoSaid : Prop := binomPascalUptoRow.holds Try.pinned (OpenSpec.upto binomPascalSpec)

/-- 'wholekeep.BinomVander', WHERE WHAT IT READS IS OF BULK AT MOST 1048576: true; the input reads as it did. -/
def binomVanderUptoRow : OpenClaim := { program := "yticphnjljnhlcaa", sum := "4fdb1916340c4b207f619211907d08d4f1315ffd272a41bb636fa893c3f93d13", func := "wholemend/wholekeep.BinomVander", spec := "binomVander", unfollowed := true, recurses := true, apart := false, narrowed := true }
def BinomVanderUptoSaid : Prop := binomVanderUptoRow.holds Try.pinned (OpenSpec.upto binomVanderSpec)

end Rows
end Go.Proofs.Yticphnjljnhlcaa

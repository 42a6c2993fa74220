/-
  No cell of these rows narrows 'for every input' (looked for: loops, veiled, ifaces, maps, wideKeys, modest, calm, conditions, laid).
  DERIVED. THE GIVEN ROWS OF THIS SEAT. 12 by the template 'for every input the law returns true; each argument reads behind the call as it read before'; 0 by the template 'total and deterministic' (their statements: YtmiddpfaamcbgaaTotals.lean).
  GIVEN WITH THE SEED: the statements are not yours to turn. If you find one false, say at which input.
  Laid BY PROGRAM, IN A SANDBOX (cutbox-rows.mjs): the forced cells as the released guide's own fill.sh prints them over the translation 17a233223f02cb8f… (all of the seat's roots in one cut). By AI agents, Wed Nov 11 2026. No macro, syntax, notation, axiom, sorry.
-/
import Derived.Test.YtmiddpfaamcbgaaChecked
import GoSem.Claim
import GoSem.ClaimJoined
import GoSem.ClaimMapViews
import Derived.JoinedTies
import Derived.KernelRfl
namespace Go.Proofs.Ytmiddpfaamcbgaa
/- THE CELL 'sum', in the pinned program and in every row, IS THE sha256 OF THE DUMP (.gsa) THAT YtmiddpfaamcbgaaProg.lean LOADS. Nothing in Lean hashes anything: it is a label: what it is worth is what the hold of that sum in a sandbox is worth. -/
noncomputable def Try.pinned : Pinned := { name := "ytmiddpfaamcbgaa", sum := "17a233223f02cb8f5d944f54cdf5f30602b583af50e2f2ef40dfa89f44a11f5e", checked := Try.checked }
namespace Rows
def none {H : Type} : Left H := { results := [], args := [] }

/-- 'wholekeep.EuclidLame': WHATEVER THE INPUT: true; the input reads as it did. -/
def euclidLameSpec : ChangeSpec := { name := "euclidLame", fn := fun _ => fun
  | [d1, d2] => { results := [.lit (.bool true)], args := [d1, d2] }
  | _ => none }
def euclidLameRow : OpenClaim := { program := "ytmiddpfaamcbgaa", sum := "17a233223f02cb8f5d944f54cdf5f30602b583af50e2f2ef40dfa89f44a11f5e", func := "wholemend/wholekeep.EuclidLame", spec := "euclidLame", apart := false }
def EuclidLameSaid : Prop := euclidLameRow.holds Try.pinned (OpenSpec.ofChange euclidLameSpec)

/-- ITS FALSE NEIGHBOUR: 'it returns false'. Refute it at one input. -/
def euclidLameWrong : ChangeSpec := { name := "euclidLame", fn := fun _ => fun
  | [d1, d2] => { results := [.lit (.bool false)], args := [d1, d2] }
  | _ => none }
def EuclidLameWrongFalsely : Prop := euclidLameRow.holds Try.pinned (OpenSpec.ofChange euclidLameWrong)

/-- 'wholekeep.EuclidDivides': WHATEVER THE INPUT: true; the input reads as it did. -/
def euclidDividesSpec : ChangeSpec := { name := "euclidDivides", fn := fun _ => fun
  | [d1, d2, d3, d4, d5] => { results := [.lit (.bool true)], args := [d1, d2, d3, d4, d5] }
  | _ => none }
def euclidDividesRow : OpenClaim := { program := "ytmiddpfaamcbgaa", sum := "17a233223f02cb8f5d944f54cdf5f30602b583af50e2f2ef40dfa89f44a11f5e", func := "wholemend/wholekeep.EuclidDivides", spec := "euclidDivides", apart := false }
def EuclidDividesSaid : Prop := euclidDividesRow.holds Try.pinned (OpenSpec.ofChange euclidDividesSpec)

/-- ITS FALSE NEIGHBOUR: 'it returns false'. Refute it at one input. -/
def euclidDividesWrong : ChangeSpec := { name := "euclidDivides", fn := fun _ => fun
  | [d1, d2, d3, d4, d5] => { results := [.lit (.bool false)], args := [d1, d2, d3, d4, d5] }
  | _ => none }
def EuclidDividesWrongFalsely : Prop := euclidDividesRow.holds Try.pinned (OpenSpec.ofChange euclidDividesWrong)

/-- 'wholekeep.EuclidSame': WHATEVER THE INPUT: true; the input reads as it did. -/
def euclidSameSpec : ChangeSpec := { name := "euclidSame", fn := fun _ => fun
  | [d1, d2, d3] => { results := [.lit (.bool true)], args := [d1, d2, d3] }
  | _ => none }
def euclidSameRow : OpenClaim := { program := "ytmiddpfaamcbgaa", sum := "17a233223f02cb8f5d944f54cdf5f30602b583af50e2f2ef40dfa89f44a11f5e", func := "wholemend/wholekeep.EuclidSame", spec := "euclidSame", unfollowed := true, recurses := true, apart := false }
def EuclidSameSaid : Prop := euclidSameRow.holds Try.pinned (OpenSpec.ofChange euclidSameSpec)

/-- ITS FALSE NEIGHBOUR: 'it returns false'. Refute it at one input. -/
def euclidSameWrong : ChangeSpec := { name := "euclidSame", fn := fun _ => fun
  | [d1, d2, d3] => { results := [.lit (.bool false)], args := [d1, d2, d3] }
  | _ => none }
def EuclidSameWrongFalsely : Prop := euclidSameRow.holds Try.pinned (OpenSpec.ofChange euclidSameWrong)

/-- 'wholekeep.EuclidTimes': WHATEVER THE INPUT: true; the input reads as it did. -/
def euclidTimesSpec : ChangeSpec := { name := "euclidTimes", fn := fun _ => fun
  | [d1, d2, d3] => { results := [.lit (.bool true)], args := [d1, d2, d3] }
  | _ => none }
def euclidTimesRow : OpenClaim := { program := "ytmiddpfaamcbgaa", sum := "17a233223f02cb8f5d944f54cdf5f30602b583af50e2f2ef40dfa89f44a11f5e", func := "wholemend/wholekeep.EuclidTimes", spec := "euclidTimes", unfollowed := true, recurses := true, apart := false }
def EuclidTimesSaid : Prop := euclidTimesRow.holds Try.pinned (OpenSpec.ofChange euclidTimesSpec)

/-- ITS FALSE NEIGHBOUR: 'it returns false'. Refute it at one input. -/
def euclidTimesWrong : ChangeSpec := { name := "euclidTimes", fn := fun _ => fun
  | [d1, d2, d3] => { results := [.lit (.bool false)], args := [d1, d2, d3] }
  | _ => none }
def EuclidTimesWrongFalsely : Prop := euclidTimesRow.holds Try.pinned (OpenSpec.ofChange euclidTimesWrong)

/-- 'wholekeep.RestRing': WHATEVER THE INPUT: true; the input reads as it did. -/
def restRingSpec : ChangeSpec := { name := "restRing", fn := fun _ => fun
  | [d1, d2, d3] => { results := [.lit (.bool true)], args := [d1, d2, d3] }
  | _ => none }
def restRingRow : OpenClaim := { program := "ytmiddpfaamcbgaa", sum := "17a233223f02cb8f5d944f54cdf5f30602b583af50e2f2ef40dfa89f44a11f5e", func := "wholemend/wholekeep.RestRing", spec := "restRing", unfollowed := true, recurses := true, apart := false }
def RestRingSaid : Prop := restRingRow.holds Try.pinned (OpenSpec.ofChange restRingSpec)

/-- ITS FALSE NEIGHBOUR: 'it returns false'. Refute it at one input. -/
def restRingWrong : ChangeSpec := { name := "restRing", fn := fun _ => fun
  | [d1, d2, d3] => { results := [.lit (.bool false)], args := [d1, d2, d3] }
  | _ => none }
def RestRingWrongFalsely : Prop := restRingRow.holds Try.pinned (OpenSpec.ofChange restRingWrong)

/-- 'wholekeep.RestPows': WHATEVER THE INPUT: true; the input reads as it did. -/
def restPowsSpec : ChangeSpec := { name := "restPows", fn := fun _ => fun
  | [d1, d2, d3, d4] => { results := [.lit (.bool true)], args := [d1, d2, d3, d4] }
  | _ => none }
def restPowsRow : OpenClaim := { program := "ytmiddpfaamcbgaa", sum := "17a233223f02cb8f5d944f54cdf5f30602b583af50e2f2ef40dfa89f44a11f5e", func := "wholemend/wholekeep.RestPows", spec := "restPows", unfollowed := true, recurses := true, apart := false }
def RestPowsSaid : Prop := restPowsRow.holds Try.pinned (OpenSpec.ofChange restPowsSpec)

/-- ITS FALSE NEIGHBOUR: 'it returns false'. Refute it at one input. -/
def restPowsWrong : ChangeSpec := { name := "restPows", fn := fun _ => fun
  | [d1, d2, d3, d4] => { results := [.lit (.bool false)], args := [d1, d2, d3, d4] }
  | _ => none }
def RestPowsWrongFalsely : Prop := restPowsRow.holds Try.pinned (OpenSpec.ofChange restPowsWrong)

/-- 'wholekeep.RestUndone': WHATEVER THE INPUT: true; the input reads as it did. -/
def restUndoneSpec : ChangeSpec := { name := "restUndone", fn := fun _ => fun
  | [d1, d2, d3] => { results := [.lit (.bool true)], args := [d1, d2, d3] }
  | _ => none }
def restUndoneRow : OpenClaim := { program := "ytmiddpfaamcbgaa", sum := "17a233223f02cb8f5d944f54cdf5f30602b583af50e2f2ef40dfa89f44a11f5e", func := "wholemend/wholekeep.RestUndone", spec := "restUndone", unfollowed := true, recurses := true, apart := false }
def RestUndoneSaid : Prop := restUndoneRow.holds Try.pinned (OpenSpec.ofChange restUndoneSpec)

/-- ITS FALSE NEIGHBOUR: 'it returns false'. Refute it at one input. -/
def restUndoneWrong : ChangeSpec := { name := "restUndone", fn := fun _ => fun
  | [d1, d2, d3] => { results := [.lit (.bool false)], args := [d1, d2, d3] }
  | _ => none }
def RestUndoneWrongFalsely : Prop := restUndoneRow.holds Try.pinned (OpenSpec.ofChange restUndoneWrong)

/-- 'wholekeep.PrimeWilson': WHATEVER THE INPUT: true; the input reads as it did. -/
def primeWilsonSpec : ChangeSpec := { name := "primeWilson", fn := fun _ => fun
  | [d] => { results := [.lit (.bool true)], args := [d] }
  | _ => none }
def primeWilsonRow : OpenClaim := { program := "ytmiddpfaamcbgaa", sum := "17a233223f02cb8f5d944f54cdf5f30602b583af50e2f2ef40dfa89f44a11f5e", func := "wholemend/wholekeep.PrimeWilson", spec := "primeWilson", unfollowed := true, recurses := true, apart := false }
def PrimeWilsonSaid : Prop := primeWilsonRow.holds Try.pinned (OpenSpec.ofChange primeWilsonSpec)

/-- ITS FALSE NEIGHBOUR: 'it returns false'. Refute it at one input. -/
def primeWilsonWrong : ChangeSpec := { name := "primeWilson", fn := fun _ => fun
  | [d] => { results := [.lit (.bool false)], args := [d] }
  | _ => none }
def PrimeWilsonWrongFalsely : Prop := primeWilsonRow.holds Try.pinned (OpenSpec.ofChange primeWilsonWrong)

/-- 'wholekeep.PrimeEuclid': WHATEVER THE INPUT: true; the input reads as it did. -/
def primeEuclidSpec : ChangeSpec := { name := "primeEuclid", fn := fun _ => fun
  | [d1, d2, d3] => { results := [.lit (.bool true)], args := [d1, d2, d3] }
  | _ => none }
def primeEuclidRow : OpenClaim := { program := "ytmiddpfaamcbgaa", sum := "17a233223f02cb8f5d944f54cdf5f30602b583af50e2f2ef40dfa89f44a11f5e", func := "wholemend/wholekeep.PrimeEuclid", spec := "primeEuclid", unfollowed := true, recurses := true, apart := false }
def PrimeEuclidSaid : Prop := primeEuclidRow.holds Try.pinned (OpenSpec.ofChange primeEuclidSpec)

/-- ITS FALSE NEIGHBOUR: 'it returns false'. Refute it at one input. -/
def primeEuclidWrong : ChangeSpec := { name := "primeEuclid", fn := fun _ => fun
  | [d1, d2, d3] => { results := [.lit (.bool false)], args := [d1, d2, d3] }
  | _ => none }
def PrimeEuclidWrongFalsely : Prop := primeEuclidRow.holds Try.pinned (OpenSpec.ofChange primeEuclidWrong)

/-- 'wholekeep.PrimeNext': WHATEVER THE INPUT: true; the input reads as it did. -/
def primeNextSpec : ChangeSpec := { name := "primeNext", fn := fun _ => fun
  | [d] => { results := [.lit (.bool true)], args := [d] }
  | _ => none }
def primeNextRow : OpenClaim := { program := "ytmiddpfaamcbgaa", sum := "17a233223f02cb8f5d944f54cdf5f30602b583af50e2f2ef40dfa89f44a11f5e", func := "wholemend/wholekeep.PrimeNext", spec := "primeNext", unfollowed := true, recurses := true, apart := false }
def PrimeNextSaid : Prop := primeNextRow.holds Try.pinned (OpenSpec.ofChange primeNextSpec)

/-- ITS FALSE NEIGHBOUR: 'it returns false'. Refute it at one input. -/
def primeNextWrong : ChangeSpec := { name := "primeNext", fn := fun _ => fun
  | [d] => { results := [.lit (.bool false)], args := [d] }
  | _ => none }
def PrimeNextWrongFalsely : Prop := primeNextRow.holds Try.pinned (OpenSpec.ofChange primeNextWrong)

/-- 'wholekeep.RestFermat': WHATEVER THE INPUT: true; the input reads as it did. -/
def restFermatSpec : ChangeSpec := { name := "restFermat", fn := fun _ => fun
  | [d1, d2] => { results := [.lit (.bool true)], args := [d1, d2] }
  | _ => none }
def restFermatRow : OpenClaim := { program := "ytmiddpfaamcbgaa", sum := "17a233223f02cb8f5d944f54cdf5f30602b583af50e2f2ef40dfa89f44a11f5e", func := "wholemend/wholekeep.RestFermat", spec := "restFermat", unfollowed := true, recurses := true, apart := false }
def RestFermatSaid : Prop := restFermatRow.holds Try.pinned (OpenSpec.ofChange restFermatSpec)

/-- ITS FALSE NEIGHBOUR: 'it returns false'. Refute it at one input. -/
def restFermatWrong : ChangeSpec := { name := "restFermat", fn := fun _ => fun
  | [d1, d2] => { results := [.lit (.bool false)], args := [d1, d2] }
  | _ => none }
def RestFermatWrongFalsely : Prop := restFermatRow.holds Try.pinned (OpenSpec.ofChange restFermatWrong)

/-- 'wholekeep.SquareBoth': WHATEVER THE INPUT: true; the input reads as it did. -/
def squareBothSpec : ChangeSpec := { name := "squareBoth", fn := fun _ => fun
  | [d1, d2] => { results := [.lit (.bool true)], args := [d1, d2] }
  | _ => none }
def squareBothRow : OpenClaim := { program := "ytmiddpfaamcbgaa", sum := "17a233223f02cb8f5d944f54cdf5f30602b583af50e2f2ef40dfa89f44a11f5e", func := "wholemend/wholekeep.SquareBoth", spec := "squareBoth", apart := false }
def SquareBothSaid : Prop := squareBothRow.holds Try.pinned (OpenSpec.ofChange squareBothSpec)

/-- ITS FALSE NEIGHBOUR: 'it returns false'. Refute it at one input. -/
def squareBothWrong : ChangeSpec := { name := "squareBoth", fn := fun _ => fun
  | [d1, d2] => { results := [.lit (.bool false)], args := [d1, d2] }
  | _ => none }
def SquareBothWrongFalsely : Prop := squareBothRow.holds Try.pinned (OpenSpec.ofChange squareBothWrong)

/- THE SECOND FORM. 'bulk': how many values and letters a reading holds, each counted each time it is reached (what is shared counts as often as it is met; a slice's spare places count too). A statement '..UptoSaid' is the law's where the arguments, and the package variables that the reading takes, are together of bulk at most 1048576: NARROWER than '..Said'. Prove '..Said' where nothing that the law and all that it calls make is longer than what came in: it says more and counts as full. Else prove '..UptoSaid'. A law counts once. -/
mutual
def uptoBulk {H : Type} : DataW H → Nat
  | .lit (.string bytes) => bytes.length + 1
  | .lit _ => 1
  | .nil => 1
  | .ptr d => uptoBulk d + 1
  | .slice elems spare => uptoBulkAll elems + uptoBulkAll spare + 1
  | .agg parts => uptoBulkAll parts + 1
  | .iface _ d => uptoBulk d + 1
  | .map entries => uptoBulkEntries entries + 1
  | .held _ => 1
def uptoBulkAll {H : Type} : List (DataW H) → Nat
  | [] => 0
  | d :: r => uptoBulk d + uptoBulkAll r
def uptoBulkEntries {H : Type} : List (Lit × DataW H) → Nat
  | [] => 0
  | x :: r => uptoBulkEntry x + uptoBulkEntries r
def uptoBulkEntry {H : Type} : Lit × DataW H → Nat
  | (.string bytes, d) => bytes.length + uptoBulk d + 1
  | (_, d) => uptoBulk d + 1
 end
def uptoSmall : (H : Type) → List (DataW H) → Bool := fun _ ds => decide (uptoBulkAll ds ≤ 1048576)
def OpenSpec.upto (s : _root_.Go.ChangeSpec) : _root_.Go.OpenSpec := { _root_.Go.OpenSpec.ofChange s with cond := some uptoSmall }

/-- 'wholekeep.EuclidLame', WHERE WHAT IT READS IS OF BULK AT MOST 1048576: true; the input reads as it did. -/
def euclidLameUptoRow : OpenClaim := { program := "ytmiddpfaamcbgaa", sum := "17a233223f02cb8f5d944f54cdf5f30602b583af50e2f2ef40dfa89f44a11f5e", func := "wholemend/wholekeep.EuclidLame", spec := "euclidLame", apart := false, narrowed := true }
def EuclidLameUptoSaid : Prop := euclidLameUptoRow.holds Try.pinned (OpenSpec.upto euclidLameSpec)

/-- 'wholekeep.EuclidDivides', WHERE WHAT IT READS IS OF BULK AT MOST 1048576: true; the input reads as it did. -/
def euclidDividesUptoRow : OpenClaim := { program := "ytmiddpfaamcbgaa", sum := "17a233223f02cb8f5d944f54cdf5f30602b583af50e2f2ef40dfa89f44a11f5e", func := "wholemend/wholekeep.EuclidDivides", spec := "euclidDivides", apart := false, narrowed := true }
def EuclidDividesUptoSaid : Prop := euclidDividesUptoRow.holds Try.pinned (OpenSpec.upto euclidDividesSpec)

/-- 'wholekeep.EuclidSame', WHERE WHAT IT READS IS OF BULK AT MOST 1048576: true; the input reads as it did. -/
def euclidSameUptoRow : OpenClaim := { program := "ytmiddpfaamcbgaa", sum := "17a233223f02cb8f5d944f54cdf5f30602b583af50e2f2ef40dfa89f44a11f5e", func := "wholemend/wholekeep.EuclidSame", spec := "euclidSame", unfollowed := true, recurses := true, apart := false, narrowed := true }
def EuclidSameUptoSaid : Prop := euclidSameUptoRow.holds Try.pinned (OpenSpec.upto euclidSameSpec)

/-- 'wholekeep.EuclidTimes', WHERE WHAT IT READS IS OF BULK AT MOST 1048576: true; the input reads as it did. -/
def euclidTimesUptoRow : OpenClaim := { program := "ytmiddpfaamcbgaa", sum := "17a233223f02cb8f5d944f54cdf5f30602b583af50e2f2ef40dfa89f44a11f5e", func := "wholemend/wholekeep.EuclidTimes", spec := "euclidTimes", unfollowed := true, recurses := true, apart := false, narrowed := true }
def EuclidTimesUptoSaid : Prop := euclidTimesUptoRow.holds Try.pinned (OpenSpec.upto euclidTimesSpec)

/-- 'wholekeep.RestRing', WHERE WHAT IT READS IS OF BULK AT MOST 1048576: true; the input reads as it did. -/
def restRingUptoRow : OpenClaim := { program := "ytmiddpfaamcbgaa", sum := "17a233223f02cb8f5d944f54cdf5f30602b583af50e2f2ef40dfa89f44a11f5e", func := "wholemend/wholekeep.RestRing", spec := "restRing", unfollowed := true, recurses := true, apart := false, narrowed := true }
def RestRingUptoSaid : Prop := restRingUptoRow.holds Try.pinned (OpenSpec.upto restRingSpec)

/-- 'wholekeep.RestPows', WHERE WHAT IT READS IS OF BULK AT MOST 1048576: true; the input reads as it did. -/
def restPowsUptoRow : OpenClaim := { program := "ytmiddpfaamcbgaa", sum := "17a233223f02cb8f5d944f54cdf5f30602b583af50e2f2ef40dfa89f44a11f5e", func := "wholemend/wholekeep.RestPows", spec := "restPows", unfollowed := true, recurses := true, apart := false, narrowed := true }
def RestPowsUptoSaid : Prop := restPowsUptoRow.holds Try.pinned (OpenSpec.upto restPowsSpec)

/-- 'wholekeep.RestUndone', WHERE WHAT IT READS IS OF BULK AT MOST 1048576: true; the input reads as it did. -/
def restUndoneUptoRow : OpenClaim := { program := "ytmiddpfaamcbgaa", sum := "17a233223f02cb8f5d944f54cdf5f30602b583af50e2f2ef40dfa89f44a11f5e", func := "wholemend/wholekeep.RestUndone", spec := "restUndone", unfollowed := true, recurses := true, apart := false, narrowed := true }
def RestUndoneUptoSaid : Prop := restUndoneUptoRow.holds Try.pinned (OpenSpec.upto restUndoneSpec)

/-- 'wholekeep.PrimeWilson', WHERE WHAT IT READS IS OF BULK AT MOST 1048576: true; the input reads as it did. -/
def primeWilsonUptoRow : OpenClaim := { program := "ytmiddpfaamcbgaa", sum := "17a233223f02cb8f5d944f54cdf5f30602b583af50e2f2ef40dfa89f44a11f5e", func := "wholemend/wholekeep.PrimeWilson", spec := "primeWilson", unfollowed := true, recurses := true, apart := false, narrowed := true }
def PrimeWilsonUptoSaid : Prop := primeWilsonUptoRow.holds Try.pinned (OpenSpec.upto primeWilsonSpec)

/-- 'wholekeep.PrimeEuclid', WHERE WHAT IT READS IS OF BULK AT MOST 1048576: true; the input reads as it did. -/
def primeEuclidUptoRow : OpenClaim := { program := "ytmiddpfaamcbgaa", sum := "17a233223f02cb8f5d944f54cdf5f30602b583af50e2f2ef40dfa89f44a11f5e", func := "wholemend/wholekeep.PrimeEuclid", spec := "primeEuclid", unfollowed := true, recurses := true, apart := false, narrowed := true }
def PrimeEuclidUptoSaid : Prop := primeEuclidUptoRow.holds Try.pinned (OpenSpec.upto primeEuclidSpec)

/-- 'wholekeep.PrimeNext', WHERE WHAT IT READS IS OF BULK AT MOST 1048576: true; the input reads as it did. -/
def primeNextUptoRow : OpenClaim := { program := "ytmiddpfaamcbgaa", sum := "17a233223f02cb8f5d944f54cdf5f30602b583af50e2f2ef40dfa89f44a11f5e", func := "wholemend/wholekeep.PrimeNext", spec := "primeNext", unfollowed := true, recurses := true, apart := false, narrowed := true }
def PrimeNextUptoSaid : Prop := primeNextUptoRow.holds Try.pinned (OpenSpec.upto primeNextSpec)

/-- 'wholekeep.RestFermat', WHERE WHAT IT READS IS OF BULK AT MOST 1048576: true; the input reads as it did. -/
def restFermatUptoRow : OpenClaim := { program := "ytmiddpfaamcbgaa", sum := "17a233223f02cb8f5d944f54cdf5f30602b583af50e2f2ef40dfa89f44a11f5e", func := "wholemend/wholekeep.RestFermat", spec := "restFermat", unfollowed := true, recurses := true, apart := false, narrowed := true }
def RestFermatUptoSaid : Prop := restFermatUptoRow.holds Try.pinned (OpenSpec.upto restFermatSpec)

/-- 'wholekeep.SquareBoth', WHERE WHAT IT READS IS OF BULK AT MOST 1048576: true; the input reads as it did. -/
def squareBothUptoRow : OpenClaim := { program := "ytmiddpfaamcbgaa", sum := "17a233223f02cb8f5d944f54cdf5f30602b583af50e2f2ef40dfa89f44a11f5e", func := "wholemend/wholekeep.SquareBoth", spec := "squareBoth", apart := false, narrowed := true }
def SquareBothUptoSaid : Prop := squareBothUptoRow.holds Try.pinned (OpenSpec.upto squareBothSpec)

end Rows
end Go.Proofs.Ytmiddpfaamcbgaa

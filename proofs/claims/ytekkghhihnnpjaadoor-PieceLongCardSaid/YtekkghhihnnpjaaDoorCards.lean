/-
  DERIVED. GIVEN WITH THE SEED: THE CARDS: each row of YtekkghhihnnpjaaDoorRows.lean that lists a variable, with what it lists TIED to the program's text (the seventh form; the later family's looks); each row that meets fmt, with fmt's text TOLD by the authors' own Lean function (tested against real Go, not proved from fmt's source: count such statements apart). THE CARD IS WHAT COUNTS. Prove the row's statement (the work); the ties are given (YtekkghhihnnpjaaDoorTie.lean); close each card by the builder's one call (the guide's Derived/Test/ToyasCard.lean, 'card_holds'). Laid BY PROGRAM, IN A SANDBOX (cutbox-door.mjs). By AI agents, Wed Nov 11 2026. No macro, syntax, notation, axiom, sorry.
-/
import Derived.Test.YtekkghhihnnpjaaDoorRows
import GoSem.ClaimSeven
namespace Go.Proofs.YtekkghhihnnpjaaDoor
namespace Rows

/-- THE TIED CARD OF 'wholekeep.PieceLong'. -/
def pieceLongCard : Claim7 := { stood := { row := pieceLongRow, standIns := [], harness := (true, "729d39a4970a8571813e5703491517f13d9b1bffb2992854336c61a4a8f24fd6"), looks := false }, kinds := [], alts := [], laidByText := true, laidKinds := [.data, .pinned], laidTests := true, laidLooks := .later }
def PieceLongCardSaid : Prop := Claim7.holds Tryd.pinned (.plain (OpenSpec.ofChange pieceLongSpec)) pieceLongCard

/-- THE TIED CARD OF 'wholekeep.CyclicSums'. -/
def cyclicSumsCard : Claim7 := { stood := { row := cyclicSumsRow, standIns := [], harness := (true, "729d39a4970a8571813e5703491517f13d9b1bffb2992854336c61a4a8f24fd6"), looks := false }, kinds := [], alts := [], laidByText := true, laidKinds := [.data, .pinned], laidTests := true, laidLooks := .later }
def CyclicSumsCardSaid : Prop := Claim7.holds Tryd.pinned (.plain (OpenSpec.ofChange cyclicSumsSpec)) cyclicSumsCard

/-- THE TIED CARD OF 'wholekeep.CyclicBurst'. -/
def cyclicBurstCard : Claim7 := { stood := { row := cyclicBurstRow, standIns := [], harness := (true, "729d39a4970a8571813e5703491517f13d9b1bffb2992854336c61a4a8f24fd6"), looks := false }, kinds := [], alts := [], laidByText := true, laidKinds := [.data, .pinned], laidTests := true, laidLooks := .later }
def CyclicBurstCardSaid : Prop := Claim7.holds Tryd.pinned (.plain (OpenSpec.ofChange cyclicBurstSpec)) cyclicBurstCard

/-- THE TIED CARD OF 'wholekeep.CyclicBack'. -/
def cyclicBackCard : Claim7 := { stood := { row := cyclicBackRow, standIns := [], harness := (true, "729d39a4970a8571813e5703491517f13d9b1bffb2992854336c61a4a8f24fd6"), looks := false }, kinds := [], alts := [], laidByText := true, laidKinds := [.data, .pinned], laidTests := true, laidLooks := .later }
def CyclicBackCardSaid : Prop := Claim7.holds Tryd.pinned (.plain (OpenSpec.ofChange cyclicBackSpec)) cyclicBackCard

/-- THE TIED CARD OF 'wholekeep.CyclicOdd'. -/
def cyclicOddCard : Claim7 := { stood := { row := cyclicOddRow, standIns := [], harness := (true, "729d39a4970a8571813e5703491517f13d9b1bffb2992854336c61a4a8f24fd6"), looks := false }, kinds := [], alts := [], laidByText := true, laidKinds := [.data, .pinned], laidTests := true, laidLooks := .later }
def CyclicOddCardSaid : Prop := Claim7.holds Tryd.pinned (.plain (OpenSpec.ofChange cyclicOddSpec)) cyclicOddCard

/-- THE SECOND FORM's CARD OF 'wholekeep.PieceLong'. -/
def pieceLongUptoCard : Claim7 := { stood := { row := pieceLongUptoRow, standIns := [], harness := (true, "729d39a4970a8571813e5703491517f13d9b1bffb2992854336c61a4a8f24fd6"), looks := false }, kinds := [], alts := [], laidByText := true, laidKinds := [.data, .pinned], laidTests := true, laidLooks := .later }
def PieceLongUptoCardSaid : Prop := Claim7.holds Tryd.pinned (.plain (OpenSpec.upto pieceLongSpec)) pieceLongUptoCard

/-- THE SECOND FORM's CARD OF 'wholekeep.CyclicSums'. -/
def cyclicSumsUptoCard : Claim7 := { stood := { row := cyclicSumsUptoRow, standIns := [], harness := (true, "729d39a4970a8571813e5703491517f13d9b1bffb2992854336c61a4a8f24fd6"), looks := false }, kinds := [], alts := [], laidByText := true, laidKinds := [.data, .pinned], laidTests := true, laidLooks := .later }
def CyclicSumsUptoCardSaid : Prop := Claim7.holds Tryd.pinned (.plain (OpenSpec.upto cyclicSumsSpec)) cyclicSumsUptoCard

/-- THE SECOND FORM's CARD OF 'wholekeep.CyclicBurst'. -/
def cyclicBurstUptoCard : Claim7 := { stood := { row := cyclicBurstUptoRow, standIns := [], harness := (true, "729d39a4970a8571813e5703491517f13d9b1bffb2992854336c61a4a8f24fd6"), looks := false }, kinds := [], alts := [], laidByText := true, laidKinds := [.data, .pinned], laidTests := true, laidLooks := .later }
def CyclicBurstUptoCardSaid : Prop := Claim7.holds Tryd.pinned (.plain (OpenSpec.upto cyclicBurstSpec)) cyclicBurstUptoCard

/-- THE SECOND FORM's CARD OF 'wholekeep.CyclicBack'. -/
def cyclicBackUptoCard : Claim7 := { stood := { row := cyclicBackUptoRow, standIns := [], harness := (true, "729d39a4970a8571813e5703491517f13d9b1bffb2992854336c61a4a8f24fd6"), looks := false }, kinds := [], alts := [], laidByText := true, laidKinds := [.data, .pinned], laidTests := true, laidLooks := .later }
def CyclicBackUptoCardSaid : Prop := Claim7.holds Tryd.pinned (.plain (OpenSpec.upto cyclicBackSpec)) cyclicBackUptoCard

/-- THE SECOND FORM's CARD OF 'wholekeep.CyclicOdd'. -/
def cyclicOddUptoCard : Claim7 := { stood := { row := cyclicOddUptoRow, standIns := [], harness := (true, "729d39a4970a8571813e5703491517f13d9b1bffb2992854336c61a4a8f24fd6"), looks := false }, kinds := [], alts := [], laidByText := true, laidKinds := [.data, .pinned], laidTests := true, laidLooks := .later }
def CyclicOddUptoCardSaid : Prop := Claim7.holds Tryd.pinned (.plain (OpenSpec.upto cyclicOddSpec)) cyclicOddUptoCard
end Rows
end Go.Proofs.YtekkghhihnnpjaaDoor

/-
  DERIVED. GIVEN WITH THE SEED: THE CARDS: each row of YtficpbnmmchpeaaGreatDoorRows.lean that lists a variable, with what it lists TIED to the program's text (the seventh form; the later family's looks); each row that meets fmt, with fmt's text TOLD by the authors' own Lean function (tested against real Go, not proved from fmt's source: count such statements apart). THE CARD IS WHAT COUNTS. Prove the row's statement (the work); the ties are given (YtficpbnmmchpeaaGreatDoorTie.lean); close each card by the builder's one call (the guide's Derived/Test/ToyasCard.lean, 'card_holds'). Laid BY PROGRAM, IN A SANDBOX (cutbox-door.mjs). By AI agents, Wed Nov 11 2026. No macro, syntax, notation, axiom, sorry.
-/
import Derived.Test.YtficpbnmmchpeaaGreatDoorRows
import GoSem.ClaimSeven
namespace Go.Proofs.YtficpbnmmchpeaaGreatDoor
namespace Rows

/-- THE TIED CARD OF 'espalierlaw19.CarveSides'. -/
def carveSidesCard : Claim7 := { stood := { row := carveSidesRow, standIns := [], harness := (true, "a8cd7af06ec331b8be7da61702abf6d183a046e3b20ee5b23515ccc8edbb4251"), looks := true }, kinds := [], alts := [], laidByText := true, laidKinds := [.data, .data, .data, .data, .pinned], laidTests := true, laidLooks := .later }
def CarveSidesCardSaid : Prop := Claim7.holds Tryz.pinned (.plain (OpenSpec.ofChange carveSidesSpec)) carveSidesCard

/-- THE SECOND FORM's CARD OF 'espalierlaw19.CarveSides'. -/
def carveSidesUptoCard : Claim7 := { stood := { row := carveSidesUptoRow, standIns := [], harness := (true, "a8cd7af06ec331b8be7da61702abf6d183a046e3b20ee5b23515ccc8edbb4251"), looks := true }, kinds := [], alts := [], laidByText := true, laidKinds := [.data, .data, .data, .data, .pinned], laidTests := true, laidLooks := .later }
def CarveSidesUptoCardSaid : Prop := Claim7.holds Tryz.pinned (.plain (OpenSpec.upto carveSidesSpec)) carveSidesUptoCard
end Rows
end Go.Proofs.YtficpbnmmchpeaaGreatDoor

/-
  DERIVED. GIVEN WITH THE SEED: THE CARDS: each row of YtmgmacfjcbkngaaGreatDoorRows.lean that lists a variable, with what it lists TIED to the program's text (the seventh form; the later family's looks); each row that meets fmt, with fmt's text TOLD by the authors' own Lean function (tested against real Go, not proved from fmt's source: count such statements apart). THE CARD IS WHAT COUNTS. Prove the row's statement (the work); the ties are given (YtmgmacfjcbkngaaGreatDoorTie.lean); close each card by the builder's one call (the guide's Derived/Test/ToyasCard.lean, 'card_holds'). Laid BY PROGRAM, IN A SANDBOX (cutbox-door.mjs). By AI agents, Wed Nov 11 2026. No macro, syntax, notation, axiom, sorry.
-/
import Derived.Test.YtmgmacfjcbkngaaGreatDoorRows
import GoSem.ClaimSeven
namespace Go.Proofs.YtmgmacfjcbkngaaGreatDoor
namespace Rows

/-- THE TIED CARD OF 'espalierlaw19.CarveRefuses'. -/
def carveRefusesCard : Claim7 := { stood := { row := carveRefusesRow, standIns := [], harness := (true, "1b00a1fb635d2f4d6e222790c153b254263f8de6b19bc400be3b7e7a62ae64a6"), looks := true }, kinds := [], alts := [], laidByText := true, laidKinds := [.data, .data, .data, .data, .pinned], laidTests := true, laidLooks := .later }
def CarveRefusesCardSaid : Prop := Claim7.holds Tryz.pinned (.plain (OpenSpec.ofChange carveRefusesSpec)) carveRefusesCard

/-- THE SECOND FORM's CARD OF 'espalierlaw19.CarveRefuses'. -/
def carveRefusesUptoCard : Claim7 := { stood := { row := carveRefusesUptoRow, standIns := [], harness := (true, "1b00a1fb635d2f4d6e222790c153b254263f8de6b19bc400be3b7e7a62ae64a6"), looks := true }, kinds := [], alts := [], laidByText := true, laidKinds := [.data, .data, .data, .data, .pinned], laidTests := true, laidLooks := .later }
def CarveRefusesUptoCardSaid : Prop := Claim7.holds Tryz.pinned (.plain (OpenSpec.upto carveRefusesSpec)) carveRefusesUptoCard
end Rows
end Go.Proofs.YtmgmacfjcbkngaaGreatDoor

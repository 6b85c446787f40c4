/-
  DERIVED. GIVEN WITH THE SEED: THE CARDS: each row of YteohoaogoakljaaGreatDoorRows.lean that lists a variable, with what it lists TIED to the program's text (the seventh form; the later family's looks); each row that meets fmt, with fmt's text TOLD by the authors' own Lean function (tested against real Go, not proved from fmt's source: count such statements apart). THE CARD IS WHAT COUNTS. Prove the row's statement (the work); the ties are given (YteohoaogoakljaaGreatDoorTie.lean); close each card by the builder's one call (the guide's Derived/Test/ToyasCard.lean, 'card_holds'). Laid BY PROGRAM, IN A SANDBOX (cutbox-door.mjs). By AI agents, Wed Nov 11 2026. No macro, syntax, notation, axiom, sorry.
-/
import Derived.Test.YteohoaogoakljaaGreatDoorRows
import GoSem.ClaimSeven
namespace Go.Proofs.YteohoaogoakljaaGreatDoor
namespace Rows

/-- THE TIED CARD OF 'espalierlaw20.EmbedNone'. -/
def embedNoneCard : Claim7 := { stood := { row := embedNoneRow, standIns := [], harness := (true, "e8be80afd46b2b7ba30450b9c5e7f6fc08999abd6ac36f77c5a7913a0cb23179"), looks := true }, kinds := [], alts := [], laidByText := true, laidKinds := [.data, .pinned], laidTests := true, laidLooks := .later }
def EmbedNoneCardSaid : Prop := Claim7.holds Tryz.pinned (.plain (OpenSpec.ofChange embedNoneSpec)) embedNoneCard

/-- THE SECOND FORM's CARD OF 'espalierlaw20.EmbedNone'. -/
def embedNoneUptoCard : Claim7 := { stood := { row := embedNoneUptoRow, standIns := [], harness := (true, "e8be80afd46b2b7ba30450b9c5e7f6fc08999abd6ac36f77c5a7913a0cb23179"), looks := true }, kinds := [], alts := [], laidByText := true, laidKinds := [.data, .pinned], laidTests := true, laidLooks := .later }
def EmbedNoneUptoCardSaid : Prop := Claim7.holds Tryz.pinned (.plain (OpenSpec.upto embedNoneSpec)) embedNoneUptoCard
end Rows
end Go.Proofs.YteohoaogoakljaaGreatDoor

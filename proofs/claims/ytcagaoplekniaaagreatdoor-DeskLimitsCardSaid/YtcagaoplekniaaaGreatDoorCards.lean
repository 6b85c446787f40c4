/-
  DERIVED. GIVEN WITH THE SEED: THE CARDS: each row of YtcagaoplekniaaaGreatDoorRows.lean that lists a variable, with what it lists TIED to the program's text (the seventh form; the later family's looks); each row that meets fmt, with fmt's text TOLD by the authors' own Lean function (tested against real Go, not proved from fmt's source: count such statements apart). THE CARD IS WHAT COUNTS. Prove the row's statement (the work); the ties are given (YtcagaoplekniaaaGreatDoorTie.lean); close each card by the builder's one call (the guide's Derived/Test/ToyasCard.lean, 'card_holds'). Laid BY PROGRAM, IN A SANDBOX (cutbox-door.mjs). By AI agents, Wed Nov 11 2026. No macro, syntax, notation, axiom, sorry.
-/
import Derived.Test.YtcagaoplekniaaaGreatDoorRows
import GoSem.ClaimSeven
namespace Go.Proofs.YtcagaoplekniaaaGreatDoor
namespace Rows

/-- THE TIED CARD OF 'espalierlaw27.DeskLimits'. -/
def deskLimitsCard : Claim7 := { stood := { row := deskLimitsRow, standIns := [], harness := (true, "b3ce54e90116e366ef03e2803b8dcb0166c8dd06634ef7a380182f8a7b9def9b"), looks := true }, kinds := [], alts := [], laidByText := true, laidKinds := [.pinned, .data, .data, .data, .data, .sentinel, .sentinel], laidTests := true, laidLooks := .later }
def DeskLimitsCardSaid : Prop := Claim7.holds Tryz.pinned (.plain (OpenSpec.ofChange deskLimitsSpec)) deskLimitsCard

/-- THE SECOND FORM's CARD OF 'espalierlaw27.DeskLimits'. -/
def deskLimitsUptoCard : Claim7 := { stood := { row := deskLimitsUptoRow, standIns := [], harness := (true, "b3ce54e90116e366ef03e2803b8dcb0166c8dd06634ef7a380182f8a7b9def9b"), looks := true }, kinds := [], alts := [], laidByText := true, laidKinds := [.pinned, .data, .data, .data, .data, .sentinel, .sentinel], laidTests := true, laidLooks := .later }
def DeskLimitsUptoCardSaid : Prop := Claim7.holds Tryz.pinned (.plain (OpenSpec.upto deskLimitsSpec)) deskLimitsUptoCard
end Rows
end Go.Proofs.YtcagaoplekniaaaGreatDoor

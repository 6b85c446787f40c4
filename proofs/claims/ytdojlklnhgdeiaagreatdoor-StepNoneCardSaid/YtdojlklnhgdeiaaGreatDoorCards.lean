/-
  DERIVED. GIVEN WITH THE SEED: THE CARDS: each row of YtdojlklnhgdeiaaGreatDoorRows.lean that lists a variable, with what it lists TIED to the program's text (the seventh form; the later family's looks); each row that meets fmt, with fmt's text TOLD by the authors' own Lean function (tested against real Go, not proved from fmt's source: count such statements apart). THE CARD IS WHAT COUNTS. Prove the row's statement (the work); the ties are given (YtdojlklnhgdeiaaGreatDoorTie.lean); close each card by the builder's one call (the guide's Derived/Test/ToyasCard.lean, 'card_holds'). Laid BY PROGRAM, IN A SANDBOX (cutbox-door.mjs). By AI agents, Wed Nov 11 2026. No macro, syntax, notation, axiom, sorry.
-/
import Derived.Test.YtdojlklnhgdeiaaGreatDoorRows
import GoSem.ClaimSeven
namespace Go.Proofs.YtdojlklnhgdeiaaGreatDoor
namespace Rows

/-- THE TIED CARD OF 'espalierlaw22.StepNone'. -/
def stepNoneCard : Claim7 := { stood := { row := stepNoneRow, standIns := [], harness := (true, "c7b74549c673c8d019647f73062317c4cb6ffa455c81400ef6f9d916cc71afc8"), looks := true }, kinds := [], alts := [], laidByText := true, laidKinds := [.data, .data, .data, .data, .pinned], laidTests := true, laidLooks := .later }
def StepNoneCardSaid : Prop := Claim7.holds Tryz.pinned (.plain (OpenSpec.ofChange stepNoneSpec)) stepNoneCard

/-- THE SECOND FORM's CARD OF 'espalierlaw22.StepNone'. -/
def stepNoneUptoCard : Claim7 := { stood := { row := stepNoneUptoRow, standIns := [], harness := (true, "c7b74549c673c8d019647f73062317c4cb6ffa455c81400ef6f9d916cc71afc8"), looks := true }, kinds := [], alts := [], laidByText := true, laidKinds := [.data, .data, .data, .data, .pinned], laidTests := true, laidLooks := .later }
def StepNoneUptoCardSaid : Prop := Claim7.holds Tryz.pinned (.plain (OpenSpec.upto stepNoneSpec)) stepNoneUptoCard
end Rows
end Go.Proofs.YtdojlklnhgdeiaaGreatDoor

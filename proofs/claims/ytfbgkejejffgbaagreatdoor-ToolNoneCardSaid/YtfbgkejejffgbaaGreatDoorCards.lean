/-
  DERIVED. GIVEN WITH THE SEED: THE CARDS: each row of YtfbgkejejffgbaaGreatDoorRows.lean that lists a variable, with what it lists TIED to the program's text (the seventh form; the later family's looks); each row that meets fmt, with fmt's text TOLD by the authors' own Lean function (tested against real Go, not proved from fmt's source: count such statements apart). THE CARD IS WHAT COUNTS. Prove the row's statement (the work); the ties are given (YtfbgkejejffgbaaGreatDoorTie.lean); close each card by the builder's one call (the guide's Derived/Test/ToyasCard.lean, 'card_holds'). Laid BY PROGRAM, IN A SANDBOX (cutbox-door.mjs). By AI agents, Wed Nov 11 2026. No macro, syntax, notation, axiom, sorry.
-/
import Derived.Test.YtfbgkejejffgbaaGreatDoorRows
import GoSem.ClaimSeven
namespace Go.Proofs.YtfbgkejejffgbaaGreatDoor
namespace Rows

/-- THE TIED CARD OF 'espalierlaw26.ToolNone'. -/
def toolNoneCard : Claim7 := { stood := { row := toolNoneRow, standIns := [], harness := (true, "bad1079f9c0b5c66408724106bf6b3536c2139142ad3a46f79fdd9cdf8ddf501"), looks := true }, kinds := [], alts := [], laidByText := true, laidKinds := [.data, .data, .data, .data, .pinned], laidTests := true, laidLooks := .later }
def ToolNoneCardSaid : Prop := Claim7.holds Tryz.pinned (.plain (OpenSpec.ofChange toolNoneSpec)) toolNoneCard

/-- THE SECOND FORM's CARD OF 'espalierlaw26.ToolNone'. -/
def toolNoneUptoCard : Claim7 := { stood := { row := toolNoneUptoRow, standIns := [], harness := (true, "bad1079f9c0b5c66408724106bf6b3536c2139142ad3a46f79fdd9cdf8ddf501"), looks := true }, kinds := [], alts := [], laidByText := true, laidKinds := [.data, .data, .data, .data, .pinned], laidTests := true, laidLooks := .later }
def ToolNoneUptoCardSaid : Prop := Claim7.holds Tryz.pinned (.plain (OpenSpec.upto toolNoneSpec)) toolNoneUptoCard
end Rows
end Go.Proofs.YtfbgkejejffgbaaGreatDoor

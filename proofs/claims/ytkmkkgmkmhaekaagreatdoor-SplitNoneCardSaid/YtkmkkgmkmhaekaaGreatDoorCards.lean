/-
  DERIVED. GIVEN WITH THE SEED: THE CARDS: each row of YtkmkkgmkmhaekaaGreatDoorRows.lean that lists a variable, with what it lists TIED to the program's text (the seventh form; the later family's looks); each row that meets fmt, with fmt's text TOLD by the authors' own Lean function (tested against real Go, not proved from fmt's source: count such statements apart). THE CARD IS WHAT COUNTS. Prove the row's statement (the work); the ties are given (YtkmkkgmkmhaekaaGreatDoorTie.lean); close each card by the builder's one call (the guide's Derived/Test/ToyasCard.lean, 'card_holds'). Laid BY PROGRAM, IN A SANDBOX (cutbox-door.mjs). By AI agents, Wed Nov 11 2026. No macro, syntax, notation, axiom, sorry.
-/
import Derived.Test.YtkmkkgmkmhaekaaGreatDoorRows
import GoSem.ClaimSeven
namespace Go.Proofs.YtkmkkgmkmhaekaaGreatDoor
namespace Rows

/-- THE TIED CARD OF 'espalierlaw16.SplitNone'. -/
def splitNoneCard : Claim7 := { stood := { row := splitNoneRow, standIns := [], harness := (true, "3c1fff9d0b08f298ecc512a92e61485986a8ac8e14928521e122614facb01cf7"), looks := true }, kinds := [], alts := [], laidByText := true, laidKinds := [.data, .pinned], laidTests := true, laidLooks := .later }
def SplitNoneCardSaid : Prop := Claim7.holds Tryz.pinned (.plain (OpenSpec.ofChange splitNoneSpec)) splitNoneCard

/-- THE SECOND FORM's CARD OF 'espalierlaw16.SplitNone'. -/
def splitNoneUptoCard : Claim7 := { stood := { row := splitNoneUptoRow, standIns := [], harness := (true, "3c1fff9d0b08f298ecc512a92e61485986a8ac8e14928521e122614facb01cf7"), looks := true }, kinds := [], alts := [], laidByText := true, laidKinds := [.data, .pinned], laidTests := true, laidLooks := .later }
def SplitNoneUptoCardSaid : Prop := Claim7.holds Tryz.pinned (.plain (OpenSpec.upto splitNoneSpec)) splitNoneUptoCard
end Rows
end Go.Proofs.YtkmkkgmkmhaekaaGreatDoor

/- A part of the proof of DeskLimits: the runs of the document's example and of the law's body, and facts of the row. Conditions: none. -/
import Derived.Test.YtcagaoplekniaaaGreatDoorProg
import Derived.KernelRfl
import GoSem.ClaimDataLaid
namespace Go.Proofs.YtcagaoplekniaaaGreatDoor
open Go
theorem typesN : Tryz.prog.types.size = 733 := by kernel_rfl
theorem rowsA : (List.range 733).all (rowFine Tryz.prog) = true := by kernel_rfl
end Go.Proofs.YtcagaoplekniaaaGreatDoor

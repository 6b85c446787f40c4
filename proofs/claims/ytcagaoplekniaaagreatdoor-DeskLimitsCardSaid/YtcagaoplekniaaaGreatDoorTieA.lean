/- A part of the proof of DeskLimits: the runs of the document's example and of the law's body, and facts of the row. Conditions: none. -/
import Derived.Test.YtcagaoplekniaaaGreatDoorTieL
namespace Go.Proofs.YtcagaoplekniaaaGreatDoor
open Go
theorem tz_w : Tryz.prog.worded (varsWordLater true) = true := by kernel_rfl
theorem tz_w' : Tryz.prog.worded (varsWordLater !true) = false := by kernel_rfl
theorem tz_root : Tryz.prog.worded rootWordLater = true := by kernel_rfl
end Go.Proofs.YtcagaoplekniaaaGreatDoor

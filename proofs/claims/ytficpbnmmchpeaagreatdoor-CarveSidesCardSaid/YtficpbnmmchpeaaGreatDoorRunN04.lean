/- A part of the proof of CarveSides: the runs of the document's example and of the law's body, and facts of the row. Conditions: none. -/
import Derived.Test.YtficpbnmmchpeaaGreatDoorSidesD
namespace Go.Eng
open Go Go.Proofs
set_option maxRecDepth 1000000
theorem runN04 : allN [65, 66, 67, 68, 69, 70, 71, 72, 73, 74, 75, 76, 77] = true := by kernel_rfl
end Go.Eng

/- A part of the proof of CarveSides: the runs of the document's example and of the law's body, and facts of the row. Conditions: none. -/
import Derived.Test.YtficpbnmmchpeaaGreatDoorSidesD
namespace Go.Eng
open Go Go.Proofs
set_option maxRecDepth 1000000
theorem runN03 : allN [51, 52, 53, 54, 55, 56, 57, 58, 59, 60, 61, 62, 63, 64] = true := by kernel_rfl
end Go.Eng

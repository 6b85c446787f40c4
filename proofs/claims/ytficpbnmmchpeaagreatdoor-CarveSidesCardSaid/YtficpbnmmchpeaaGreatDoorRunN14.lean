/- A part of the proof of CarveSides: the runs of the document's example and of the law's body, and facts of the row. Conditions: none. -/
import Derived.Test.YtficpbnmmchpeaaGreatDoorSidesD
namespace Go.Eng
open Go Go.Proofs
set_option maxRecDepth 1000000
theorem runN14 : allN [172, 173, 174, 175, 176, 177, 178, 179, 180] = true := by kernel_rfl
end Go.Eng

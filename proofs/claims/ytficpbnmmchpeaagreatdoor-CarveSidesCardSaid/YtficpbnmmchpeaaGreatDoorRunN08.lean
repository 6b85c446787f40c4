/- A part of the proof of CarveSides: the runs of the document's example and of the law's body, and facts of the row. Conditions: none. -/
import Derived.Test.YtficpbnmmchpeaaGreatDoorSidesD
namespace Go.Eng
open Go Go.Proofs
set_option maxRecDepth 1000000
theorem runN08 : allN [113, 114, 115, 116, 117, 118, 119, 120, 121, 122, 123] = true := by kernel_rfl
end Go.Eng

/- A part of the proof of CarveSides: the runs of the document's example and of the law's body, and facts of the row. Conditions: none. -/
import Derived.Test.YtficpbnmmchpeaaGreatDoorSidesD
namespace Go.Eng
open Go Go.Proofs
set_option maxRecDepth 1000000
theorem runN07 : allN [102, 103, 104, 105, 106, 107, 108, 109, 110, 111, 112] = true := by kernel_rfl
end Go.Eng

/- A part of the proof of CarveSides: the runs of the document's example and of the law's body, and facts of the row. Conditions: none. -/
import Derived.Test.YtficpbnmmchpeaaGreatDoorSidesD
namespace Go.Eng
open Go Go.Proofs
set_option maxRecDepth 1000000
theorem runN09 : allN [124, 125, 126, 127, 128, 129, 130, 131, 132, 133] = true := by kernel_rfl
end Go.Eng

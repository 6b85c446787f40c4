/- A part of the proof of CarveSides: the runs of the document's example and of the law's body, and facts of the row. Conditions: none. -/
import Derived.Test.YtficpbnmmchpeaaGreatDoorSidesD
namespace Go.Eng
open Go Go.Proofs
set_option maxRecDepth 1000000
theorem runN15 : allN [181, 182, 183, 184, 185, 186, 187, 188] = true := by kernel_rfl
end Go.Eng

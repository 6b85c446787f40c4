/- A part of the proof of CarveSides: the runs of the document's example and of the law's body, and facts of the row. Conditions: none. -/
import Derived.Test.YtficpbnmmchpeaaGreatDoorSidesD
namespace Go.Eng
open Go Go.Proofs
set_option maxRecDepth 1000000
theorem runN12 : allN [154, 155, 156, 157, 158, 159, 160, 161, 162] = true := by kernel_rfl
end Go.Eng

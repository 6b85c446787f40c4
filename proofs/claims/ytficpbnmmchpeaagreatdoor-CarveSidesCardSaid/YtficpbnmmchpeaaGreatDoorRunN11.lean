/- A part of the proof of CarveSides: the runs of the document's example and of the law's body, and facts of the row. Conditions: none. -/
import Derived.Test.YtficpbnmmchpeaaGreatDoorSidesD
namespace Go.Eng
open Go Go.Proofs
set_option maxRecDepth 1000000
theorem runN11 : allN [144, 145, 146, 147, 148, 149, 150, 151, 152, 153] = true := by kernel_rfl
end Go.Eng

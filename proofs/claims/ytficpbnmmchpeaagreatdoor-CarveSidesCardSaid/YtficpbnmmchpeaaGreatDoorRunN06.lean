/- A part of the proof of CarveSides: the runs of the document's example and of the law's body, and facts of the row. Conditions: none. -/
import Derived.Test.YtficpbnmmchpeaaGreatDoorSidesD
namespace Go.Eng
open Go Go.Proofs
set_option maxRecDepth 1000000
theorem runN06 : allN [90, 91, 92, 93, 94, 95, 96, 97, 98, 99, 100, 101] = true := by kernel_rfl
end Go.Eng

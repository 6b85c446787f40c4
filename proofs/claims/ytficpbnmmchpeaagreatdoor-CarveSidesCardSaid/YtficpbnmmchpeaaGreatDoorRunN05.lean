/- A part of the proof of CarveSides: the runs of the document's example and of the law's body, and facts of the row. Conditions: none. -/
import Derived.Test.YtficpbnmmchpeaaGreatDoorSidesD
namespace Go.Eng
open Go Go.Proofs
set_option maxRecDepth 1000000
theorem runN05 : allN [78, 79, 80, 81, 82, 83, 84, 85, 86, 87, 88, 89] = true := by kernel_rfl
end Go.Eng

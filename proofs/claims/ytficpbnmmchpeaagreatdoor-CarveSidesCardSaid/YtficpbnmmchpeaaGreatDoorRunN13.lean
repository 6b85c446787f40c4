/- A part of the proof of CarveSides: the runs of the document's example and of the law's body, and facts of the row. Conditions: none. -/
import Derived.Test.YtficpbnmmchpeaaGreatDoorSidesD
namespace Go.Eng
open Go Go.Proofs
set_option maxRecDepth 1000000
theorem runN13 : allN [163, 164, 165, 166, 167, 168, 169, 170, 171] = true := by kernel_rfl
end Go.Eng

/- A part of the proof of CarveSides: the runs of the document's example and of the law's body, and facts of the row. Conditions: none. -/
import Derived.Test.YtficpbnmmchpeaaGreatDoorRows
import Derived.JoinedOf
import Derived.KernelRfl
namespace Go.Proofs.YtficpbnmmchpeaaGreatDoor
open Go
set_option maxRecDepth 100000
theorem cj24 : (Tryz.prog.stopsHeard) = true := by kernel_rfl
theorem cj25 : (Tryz.prog.mayEnter) = true := by kernel_rfl
end Go.Proofs.YtficpbnmmchpeaaGreatDoor

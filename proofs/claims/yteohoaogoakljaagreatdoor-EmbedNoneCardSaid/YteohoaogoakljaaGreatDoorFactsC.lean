/- A part of the proof of EmbedNoneCardSaid: the runs of the document's example and of the law's body, and facts of the row. Conditions: none. -/
import Derived.Test.YteohoaogoakljaaGreatDoorRows
import Derived.JoinedOf
import Derived.KernelRfl
namespace Go.Proofs.YteohoaogoakljaaGreatDoor
open Go
set_option maxRecDepth 100000
theorem cj24 : (Tryz.prog.stopsHeard) = true := by kernel_rfl
theorem cj25 : (Tryz.prog.mayEnter) = true := by kernel_rfl
end Go.Proofs.YteohoaogoakljaaGreatDoor

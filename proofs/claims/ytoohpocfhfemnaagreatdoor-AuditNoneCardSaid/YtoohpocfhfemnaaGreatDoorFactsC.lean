/- A part of the proof of AuditNone: the runs of the document's example and of the law's body, and facts of the row. Conditions: none. -/
import Derived.Test.YtoohpocfhfemnaaGreatDoorRows
import Derived.JoinedOf
import Derived.KernelRfl
namespace Go.Proofs.YtoohpocfhfemnaaGreatDoor
open Go
set_option maxRecDepth 100000
theorem cj24 : (Tryz.prog.stopsHeard) = true := by kernel_rfl
theorem cj25 : (Tryz.prog.mayEnter) = true := by kernel_rfl
end Go.Proofs.YtoohpocfhfemnaaGreatDoor

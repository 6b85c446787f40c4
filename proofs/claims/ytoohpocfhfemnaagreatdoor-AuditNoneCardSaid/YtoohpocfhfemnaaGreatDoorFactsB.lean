/- A part of the proof of AuditNone: the runs of the document's example and of the law's body, and facts of the row. Conditions: none. -/
import Derived.Test.YtoohpocfhfemnaaGreatDoorRows
import Derived.JoinedOf
import Derived.KernelRfl
namespace Go.Proofs.YtoohpocfhfemnaaGreatDoor
open Go
set_option maxRecDepth 100000
theorem cj22 : ((Rows.auditNoneRow.plainKeys == Tryz.prog.plainKeys)) = true := by kernel_rfl
theorem cj16 : ((Rows.auditNoneRow.loops == (Tryz.f3.params.toList ++ Rows.auditNoneSpec.plain.varTypes Tryz.prog).any (Tryz.prog.loopsFrom ·))) = true := by kernel_rfl
end Go.Proofs.YtoohpocfhfemnaaGreatDoor

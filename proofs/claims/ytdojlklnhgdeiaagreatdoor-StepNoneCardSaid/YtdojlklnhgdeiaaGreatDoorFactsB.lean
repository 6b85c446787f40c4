/- A part of the proof of StepNone: the runs of the document's example and of the law's body, and facts of the row. Conditions: none. -/
import Derived.Test.YtdojlklnhgdeiaaGreatDoorRows
import Derived.JoinedOf
import Derived.KernelRfl
namespace Go.Proofs.YtdojlklnhgdeiaaGreatDoor
open Go
set_option maxRecDepth 100000
theorem cj22 : ((Rows.stepNoneRow.plainKeys == Tryz.prog.plainKeys)) = true := by kernel_rfl
theorem cj16 : ((Rows.stepNoneRow.loops == (Tryz.f3.params.toList ++ Rows.stepNoneSpec.plain.varTypes Tryz.prog).any (Tryz.prog.loopsFrom ·))) = true := by kernel_rfl
end Go.Proofs.YtdojlklnhgdeiaaGreatDoor

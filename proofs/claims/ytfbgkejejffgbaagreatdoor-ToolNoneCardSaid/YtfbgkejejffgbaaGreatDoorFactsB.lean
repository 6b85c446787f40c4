/- A part of the proof of ToolNone: the runs of the document's example and of the law's body, and facts of the row. Conditions: none. -/
import Derived.Test.YtfbgkejejffgbaaGreatDoorRows
import Derived.JoinedOf
namespace Go.Proofs.YtfbgkejejffgbaaGreatDoor
open Go
set_option maxRecDepth 100000
theorem cj22 : ((Rows.toolNoneRow.plainKeys == Tryz.prog.plainKeys)) = true := by kernel_rfl
theorem cj16 : ((Rows.toolNoneRow.loops == (Tryz.f3.params.toList ++ Rows.toolNoneSpec.plain.varTypes Tryz.prog).any (Tryz.prog.loopsFrom ·))) = true := by kernel_rfl
end Go.Proofs.YtfbgkejejffgbaaGreatDoor

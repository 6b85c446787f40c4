/- A part of the proof of CarveRefuses: the runs of the document's example and of the law's body, and facts of the row. Conditions: none. -/
import Derived.Test.YtmgmacfjcbkngaaGreatDoorRows
import Derived.JoinedOf
import Derived.KernelRfl
namespace Go.Proofs.YtmgmacfjcbkngaaGreatDoor
open Go
set_option maxRecDepth 100000
theorem cj22 : ((Rows.carveRefusesRow.plainKeys == Tryz.prog.plainKeys)) = true := by kernel_rfl
theorem cj16 : ((Rows.carveRefusesRow.loops == (Tryz.f3.params.toList ++ Rows.carveRefusesSpec.plain.varTypes Tryz.prog).any (Tryz.prog.loopsFrom ·))) = true := by kernel_rfl
end Go.Proofs.YtmgmacfjcbkngaaGreatDoor

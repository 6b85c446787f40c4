/- A part of the proof of CarveSides: the runs of the document's example and of the law's body, and facts of the row. Conditions: none. -/
import Derived.Test.YtficpbnmmchpeaaGreatDoorRows
import Derived.JoinedOf
import Derived.KernelRfl
namespace Go.Proofs.YtficpbnmmchpeaaGreatDoor
open Go
set_option maxRecDepth 100000
theorem cj2 : (mapsRowed Tryz.prog) = true := by kernel_rfl
end Go.Proofs.YtficpbnmmchpeaaGreatDoor

namespace Go.Proofs.YtficpbnmmchpeaaGreatDoor
open Go
set_option maxRecDepth 100000
theorem cj22 : ((Rows.carveSidesRow.plainKeys == Tryz.prog.plainKeys)) = true := by kernel_rfl
theorem cj16 : ((Rows.carveSidesRow.loops == (Tryz.f3.params.toList ++ Rows.carveSidesSpec.plain.varTypes Tryz.prog).any (Tryz.prog.loopsFrom ·))) = true := by kernel_rfl
end Go.Proofs.YtficpbnmmchpeaaGreatDoor

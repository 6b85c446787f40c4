/- A part of the proof of EmbedNoneCardSaid: the runs of the document's example and of the law's body, and facts of the row. Conditions: none. -/
import Derived.Test.YteohoaogoakljaaGreatDoorRows
import Derived.JoinedOf
import Derived.KernelRfl
namespace Go.Proofs.YteohoaogoakljaaGreatDoor
open Go
set_option maxRecDepth 100000
theorem cj22 : ((Rows.embedNoneRow.plainKeys == Tryz.prog.plainKeys)) = true := by kernel_rfl
theorem cj16 : ((Rows.embedNoneRow.loops == (Tryz.f3.params.toList ++ Rows.embedNoneSpec.plain.varTypes Tryz.prog).any (Tryz.prog.loopsFrom ·))) = true := by kernel_rfl
end Go.Proofs.YteohoaogoakljaaGreatDoor

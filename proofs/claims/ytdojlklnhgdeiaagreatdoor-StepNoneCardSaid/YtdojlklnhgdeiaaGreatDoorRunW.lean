/- A part of the proof of StepNone: the runs of the document's example and of the law's body, and facts of the row. Conditions: none. -/
import Derived.Test.YtdojlklnhgdeiaaGreatDoorInsertI
import Derived.Test.YtdojlklnhgdeiaaGreatDoorEngM
namespace Go.Eng
open Go
set_option maxRecDepth 1000000
theorem runW22 : okRet 0 true ((execF (withI kitJ) 100000 : Ex) false (bodyOf Go.Proofs.Tryz.f4) (initFr 55 []) ⟨.leaf, 1024⟩) = true := by kernel_rfl
end Go.Eng

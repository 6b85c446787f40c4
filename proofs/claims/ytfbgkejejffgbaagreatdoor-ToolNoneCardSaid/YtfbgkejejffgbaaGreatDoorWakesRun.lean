/- A part of the proof of ToolNone: the runs of the document's example and of the law's body, and facts of the row. Conditions: none. -/
import Derived.Test.YtfbgkejejffgbaaGreatDoorSeatKit
import Derived.Test.YtfbgkejejffgbaaGreatDoorEngM
namespace Go.Eng
open Go
set_option maxRecDepth 1000000
theorem runW : okRet 0 true ((execF (withI kitI) 100000 : Ex) false (bodyOf Go.Proofs.Tryz.f4) (initFr 63 []) ⟨.leaf, 1024⟩) = true := by kernel_rfl
end Go.Eng

/- A part of the proof of CarveRefuses: the runs of the document's example and of the law's body, and facts of the row. Conditions: none. -/
import Derived.Test.YtmgmacfjcbkngaaGreatDoorLitA
import Derived.Test.YtmgmacfjcbkngaaGreatDoorInsertI
namespace Go.Eng
open Go
set_option maxRecDepth 1000000
theorem runA : okState litA 18232 frmA 107 (runL (execF (withI kitJ) 100000) false (heads 6 (bodyOf Go.Proofs.Tryz.f4)) (initFr 107 []) ⟨.leaf, 1024⟩) = true := by kernel_rfl
end Go.Eng

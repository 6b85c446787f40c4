/- A part of the proof of CarveSides: the runs of the document's example and of the law's body, and facts of the row. Conditions: none. -/
import Derived.Test.YtficpbnmmchpeaaGreatDoorWakesA
import Derived.Test.YtficpbnmmchpeaaGreatDoorInsert
namespace Go.Eng
open Go
set_option maxRecDepth 1000000
theorem runWB : okRet 0 true ((execF (withI kitJ) 100000 : Ex) false (tail 6 (bodyOf Go.Proofs.Tryz.f4)) ⟨107, litF frmW⟩ ⟨litH litW, 18232⟩) = true := by kernel_rfl
end Go.Eng

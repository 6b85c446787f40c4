/- A part of the proof of CarveSides: the runs of the document's example and of the law's body, and facts of the row. Conditions: none. -/
import Derived.Test.YtficpbnmmchpeaaGreatDoorSidesD
namespace Go.Eng
open Go Go.Proofs
set_option maxRecDepth 1000000
theorem runA : okState litA 8163 frmA 127 (runL (execF (withI kitA) 100000 : Ex) false (heads 6 lawB) f0A ⟨.leaf, 1024⟩) = true := by kernel_rfl
end Go.Eng

namespace Go.Eng
open Go Go.Proofs
set_option maxRecDepth 1000000
theorem runH : okEnd (withI kitJ) Tryz.f29.results.toList valH litHo 24690 ((execF (withI kitJ) 100000 : Ex) false (bodyOf Tryz.f29) (initFr Tryz.f29.ntmps argH) ⟨litH litHi, 9500⟩) = true := by kernel_rfl
end Go.Eng

namespace Go.Eng
open Go Go.Proofs
set_option maxRecDepth 1000000
theorem runC : okRet 4 true ((execF (tbQ kitJ true (qNot (0 :: idsS))) 100000 : Ex) false (tail 9 lawB) ⟨127, litF frmC⟩ ⟨litH litC, 60000⟩) = true := by kernel_rfl
end Go.Eng

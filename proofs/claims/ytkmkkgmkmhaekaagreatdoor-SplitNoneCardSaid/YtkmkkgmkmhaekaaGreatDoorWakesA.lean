/- A part of the proof of SplitNone: the run of the document's example. Conditions: none. -/
import Derived.Test.YtkmkkgmkmhaekaaGreatDoorLitA
namespace Go.Eng
open Go
set_option maxRecDepth 1000000
theorem runA : okNormal litA 42773 1 (.ptr 1182 0) 78 ((execF tb1 100000 : Ex) false (Code.at [true, false] (bodyOf Go.Proofs.Tryz.f4)) (initFr 78 []) ⟨.leaf, 1025⟩) = true := by kernel_rfl
end Go.Eng

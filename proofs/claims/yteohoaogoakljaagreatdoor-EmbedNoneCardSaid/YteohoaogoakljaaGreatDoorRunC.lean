/- A part of the proof of EmbedNoneCardSaid: the runs of the document's example and of the law's body, and facts of the row. Conditions: none. -/
import Derived.Test.YteohoaogoakljaaGreatDoorEmbedKit
import Derived.Test.YteohoaogoakljaaGreatDoorLitB
namespace Go.Eng
open Go
set_option maxRecDepth 1000000
theorem runC : okEnd (withI kitE) Go.Proofs.Tryz.f5.results.toList outC litC9 30500 ((execF (withI kitE) 100000 : Ex) false (bodyOf Go.Proofs.Tryz.f5) (initFr 254 argC) ⟨litH litC, 1035⟩) = true := by kernel_rfl
end Go.Eng

/- A part of the proof of EmbedNoneCardSaid: the runs of the document's example and of the law's body, and facts of the row. Conditions: none. -/
import Derived.Test.YteohoaogoakljaaGreatDoorEmbedKit
import Derived.Test.YteohoaogoakljaaGreatDoorLitB
namespace Go.Eng
open Go
set_option maxRecDepth 1000000
theorem runB1 : okState litB1 26686 frmB1 254 (runL (execF (withI kitE) 100000) false (heads 12 (bodyOf Go.Proofs.Tryz.f5)) (initFr 254 argB) ⟨litH litB, 1037⟩) = true := by kernel_rfl
end Go.Eng

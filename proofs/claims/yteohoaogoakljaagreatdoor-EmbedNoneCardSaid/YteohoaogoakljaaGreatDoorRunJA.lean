/- A part of the proof of EmbedNoneCardSaid: the runs of the document's example and of the law's body, and facts of the row. Conditions: none. -/
import Derived.Test.YteohoaogoakljaaGreatDoorEmbedKit
namespace Go.Eng
open Go
set_option maxRecDepth 1000000
theorem runJ1 : okState litJ1 76436 frmJ1 127 (runL (execF (withI kitE) 100000) false (heads 10 (bodyOf Go.Proofs.Tryz.f7)) (initFr 127 argJ) ⟨litH litJ, 45421⟩) = true := by kernel_rfl
end Go.Eng

/- A part of the proof of EmbedNoneCardSaid: the runs of the document's example and of the law's body, and facts of the row. Conditions: none. -/
import Derived.Test.YteohoaogoakljaaGreatDoorEmbedKit
namespace Go.Eng
open Go
set_option maxRecDepth 1000000
theorem runJ2 : okState litJ2 94205 frmJ2 127 (runL (execF (withI kitE) 100000) false (heads 1 (tail 10 (bodyOf Go.Proofs.Tryz.f7))) ⟨127, litF frmJ1⟩ ⟨litH litJ1, 76436⟩) = true := by kernel_rfl
end Go.Eng

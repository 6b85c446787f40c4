/- A part of the proof of EmbedNoneCardSaid: the runs of the document's example and of the law's body, and facts of the row. Conditions: none. -/
import Derived.Test.YteohoaogoakljaaGreatDoorEmbedKit
import Derived.Test.YteohoaogoakljaaGreatDoorLitB
namespace Go.Eng
open Go
set_option maxRecDepth 1000000
theorem runB2 : okEnd (withI kitE) Go.Proofs.Tryz.f5.results.toList outB litW 45390 ((execF (withI kitE) 100000 : Ex) false (tail 12 (bodyOf Go.Proofs.Tryz.f5)) ⟨254, litF frmB1⟩ ⟨litH litB1, 26686⟩) = true := by kernel_rfl
end Go.Eng

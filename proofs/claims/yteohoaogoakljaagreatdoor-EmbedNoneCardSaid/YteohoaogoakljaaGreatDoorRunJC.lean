/- A part of the proof of EmbedNoneCardSaid: the runs of the document's example and of the law's body, and facts of the row. Conditions: none. -/
import Derived.Test.YteohoaogoakljaaGreatDoorEmbedKit
namespace Go.Eng
open Go
set_option maxRecDepth 1000000
theorem runJ3 : okEnd (withI kitE) Go.Proofs.Tryz.f7.results.toList outJ [] 121551 ((execF (withI kitE) 100000 : Ex) false (tail 1 (tail 10 (bodyOf Go.Proofs.Tryz.f7))) ⟨127, litF frmJ2⟩ ⟨litH litJ2, 94205⟩) = true := by kernel_rfl
end Go.Eng

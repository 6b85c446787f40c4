/- A part of the proof of CarveSides: the runs of the document's example and of the law's body, and facts of the row. Conditions: none. -/
import Derived.Test.YtficpbnmmchpeaaGreatDoorFinalP
import Derived.Test.YtficpbnmmchpeaaGreatDoorNoGo
import Derived.Test.YtficpbnmmchpeaaGreatDoorFacts
import Derived.Test.YtficpbnmmchpeaaGreatDoorFactsA
import Derived.Test.YtficpbnmmchpeaaGreatDoorFactsC
namespace Go.Proofs.YtficpbnmmchpeaaGreatDoor
open Go
set_option maxRecDepth 100000
theorem closed : joinedFacts Tryz.prog 3 Tryz.f3 Rows.carveSidesSpec Rows.carveSidesRow = true := by
  unfold joinedFacts
  rw [hIn, hUn, hRec, hVars, laidOut, cj2, cj22, cj16, cj24, cj25]
  kernel_rfl

theorem carveSides_holds : Rows.CarveSidesSaid :=
  OpenClaim.holds_of_wide 3 Tryz.f3 rfl rfl rfl rfl rfl rfl rfl ⟨rfl, rfl, rfl, rfl, rfl⟩ rfl rfl rfl rfl rfl (by kernel_rfl) Tryz.func3 closed
    (of_decide_eq_true (by kernel_rfl)) (by unfold Func.isWrapper; first | (rw [if_pos (by decide +kernel)]; kernel_rfl) | (rw [if_neg (by decide +kernel)]; exact ⟨rfl, rfl⟩))
    (fun os started H enc _ => lifted os started H enc)
end Go.Proofs.YtficpbnmmchpeaaGreatDoor

/- A part of the proof of AuditNone: the runs of the document's example and of the law's body, and facts of the row. Conditions: none. -/
import Derived.Test.YtoohpocfhfemnaaGreatDoorFinalP
import Derived.Test.YtoohpocfhfemnaaGreatDoorNoGo
import Derived.Test.YtoohpocfhfemnaaGreatDoorFacts
import Derived.Test.YtoohpocfhfemnaaGreatDoorFactsA
import Derived.Test.YtoohpocfhfemnaaGreatDoorFactsB
import Derived.Test.YtoohpocfhfemnaaGreatDoorFactsC
namespace Go.Proofs.YtoohpocfhfemnaaGreatDoor
open Go
set_option maxRecDepth 100000
theorem closed : joinedFacts Tryz.prog 3 Tryz.f3 Rows.auditNoneSpec Rows.auditNoneRow = true := by
  unfold joinedFacts
  rw [hIn, hUn, hRec, hVars, laidOut, cj2, cj22, cj16, cj24, cj25]
  kernel_rfl

theorem auditNone_holds : Rows.AuditNoneSaid :=
  OpenClaim.holds_of_wide 3 Tryz.f3 rfl rfl rfl rfl rfl rfl rfl ⟨rfl, rfl, rfl, rfl, rfl⟩ rfl rfl rfl rfl rfl (by kernel_rfl) Tryz.func3 closed
    (of_decide_eq_true (by kernel_rfl)) (by unfold Func.isWrapper; first | (rw [if_pos (by decide +kernel)]; kernel_rfl) | (rw [if_neg (by decide +kernel)]; exact ⟨rfl, rfl⟩))
    (fun os started H enc _ => lifted os started H enc)
end Go.Proofs.YtoohpocfhfemnaaGreatDoor

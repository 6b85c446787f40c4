/- A part of the proof of AuditNone: the runs of the document's example and of the law's body, and facts of the row. Conditions: none. -/
import Derived.Test.YtoohpocfhfemnaaGreatDoorClo
import Derived.Test.YtoohpocfhfemnaaGreatDoorRows
namespace Go.Proofs.YtoohpocfhfemnaaGreatDoor
open Go
set_option maxRecDepth 100000
theorem hIn : Tryz.prog.inPlace 3 = Rows.auditNoneRow.inPlace := by
  unfold Program.inPlace
  rw [clo]
  kernel_rfl
theorem hUn : Tryz.prog.unfollowed 3 = Rows.auditNoneRow.unfollowed := by
  unfold Program.unfollowed
  rw [clo]
  kernel_rfl
theorem hRec : Tryz.prog.recurses 3 = Rows.auditNoneRow.recurses := by
  unfold Program.recurses
  rw [hUn]
  exact Bool.true_or _
theorem hVars : Tryz.prog.varsNamed 3 = Rows.auditNoneRow.named := by
  unfold Program.varsNamed
  rw [clo]
  kernel_rfl
end Go.Proofs.YtoohpocfhfemnaaGreatDoor

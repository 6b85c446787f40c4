/- A part of the proof of ToolNone: the runs of the document's example and of the law's body, and facts of the row. Conditions: none. -/
import Derived.Test.YtfbgkejejffgbaaGreatDoorClo
import Derived.Test.YtfbgkejejffgbaaGreatDoorNoGo
namespace Go.Proofs.YtfbgkejejffgbaaGreatDoor
open Go
set_option maxRecDepth 100000
theorem hIn : Tryz.prog.inPlace 3 = Rows.toolNoneRow.inPlace := by
  unfold Program.inPlace
  rw [clo]
  kernel_rfl
theorem hUn : Tryz.prog.unfollowed 3 = true := by
  unfold Program.unfollowed
  rw [clo]
  kernel_rfl
theorem hRec : Tryz.prog.recurses 3 = true := by
  unfold Program.recurses
  rw [hUn, Bool.true_or]
theorem hVars : Tryz.prog.varsNamed 3 = Rows.toolNoneRow.named := by
  unfold Program.varsNamed
  rw [clo]
  kernel_rfl
end Go.Proofs.YtfbgkejejffgbaaGreatDoor

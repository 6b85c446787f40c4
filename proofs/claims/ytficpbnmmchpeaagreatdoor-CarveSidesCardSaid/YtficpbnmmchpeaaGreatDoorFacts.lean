/- A part of the proof of CarveSides: the runs of the document's example and of the law's body, and facts of the row. Conditions: none. -/
import Derived.Test.YtficpbnmmchpeaaGreatDoorClo
import Derived.Test.YtficpbnmmchpeaaGreatDoorRows
namespace Go.Proofs.YtficpbnmmchpeaaGreatDoor
open Go
set_option maxRecDepth 100000
theorem hIn : Tryz.prog.inPlace 3 = Rows.carveSidesRow.inPlace := by
  unfold Program.inPlace
  rw [clo]
  kernel_rfl
theorem hUn : Tryz.prog.unfollowed 3 = Rows.carveSidesRow.unfollowed := by
  unfold Program.unfollowed
  rw [clo]
  kernel_rfl
theorem hRec : Tryz.prog.recurses 3 = Rows.carveSidesRow.recurses := by
  unfold Program.recurses
  rw [hUn]
  exact Bool.true_or _
theorem hVars : Tryz.prog.varsNamed 3 = Rows.carveSidesRow.named := by
  unfold Program.varsNamed
  rw [clo]
  kernel_rfl
end Go.Proofs.YtficpbnmmchpeaaGreatDoor

/- A part of the proof of DeskLimits: the runs of the document's example and of the law's body, and facts of the row. Conditions: none. -/
import Derived.Test.YtcagaoplekniaaaGreatDoorFactM
namespace Go.Proofs.YtcagaoplekniaaaGreatDoor
open Go
theorem globalsA : (Tryz.prog.globals.all fun g => decide (g.type < 733)) = true := by kernel_rfl
theorem paramsA : (Tryz.prog.funcs.all fun f => f.params.all fun t => decide (t < 733)) = true := by kernel_rfl
theorem laidOut : laidOutB Tryz.prog = true := by
  unfold laidOutB
  rw [typesN, rowsA, globalsA, paramsA]
  rfl
end Go.Proofs.YtcagaoplekniaaaGreatDoor

/- A part of the proof of DeskLimits: the runs of the document's example and of the law's body, and facts of the row. Conditions: none. -/
import Derived.Test.YtcagaoplekniaaaGreatDoorTieL
namespace Go.Proofs.YtcagaoplekniaaaGreatDoor
open Go
theorem tz_k : tieL.map (fun x => Tryz.prog.kindOfLater x.1) = [LaidKind.data, .data, .data, .data, .sentinel, .sentinel].map some := by kernel_rfl
theorem tz_g : (Tryz.prog.funcNamed "gosem.cut.vars").isSome = true := by kernel_rfl
end Go.Proofs.YtcagaoplekniaaaGreatDoor

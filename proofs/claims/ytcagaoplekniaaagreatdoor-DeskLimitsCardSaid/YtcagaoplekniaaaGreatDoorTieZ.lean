/- A part of the proof of DeskLimits: the runs of the document's example and of the law's body, and facts of the row. Conditions: none. -/
import Derived.Test.YtcagaoplekniaaaGreatDoorTieA
import Derived.Test.YtcagaoplekniaaaGreatDoorTieB
import Derived.Test.YtcagaoplekniaaaGreatDoorTieC
import Derived.Test.YtcagaoplekniaaaGreatDoorTieD
import Derived.Test.YtcagaoplekniaaaGreatDoorTieE
import Derived.Test.YtcagaoplekniaaaGreatDoorTieF
import Derived.Test.YtcagaoplekniaaaGreatDoorTieG
namespace Go.Proofs.YtcagaoplekniaaaGreatDoor
open Go
theorem tieZ : Tryz.prog.laidByTextLater tieL [.data, .data, .data, .data, .sentinel, .sentinel] true :=
  Program.laidByTextLater_by_run 400 8 tz_w tz_w' tz_root tz_k tz_g tz_n tz_d tz_1 tz_2
theorem row_tieZ : Rows.deskLimitsRow.laidByTextAt .later Tryz.pinned [.pinned, .data, .data, .data, .data, .sentinel, .sentinel] true :=
  OpenClaim.laidByTextAt_pinned rfl rfl tieZ rfl rfl rfl rfl (fun y hy _e => by
    simp only [Rows.deskLimitsRow, List.zip_cons_cons, List.zip_nil_right, List.mem_cons, List.mem_nil_iff, or_false] at hy
    rcases hy with rfl | rfl | rfl | rfl | rfl | rfl | rfl
    · exact ⟨tz_pin, by kernel_rfl⟩
    · cases _e
    · cases _e
    · cases _e
    · cases _e
    · cases _e
    · cases _e) tz_fits
end Go.Proofs.YtcagaoplekniaaaGreatDoor

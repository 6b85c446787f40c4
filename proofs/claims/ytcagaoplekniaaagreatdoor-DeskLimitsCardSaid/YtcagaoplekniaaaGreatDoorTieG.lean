/- A part of the proof of DeskLimits: the runs of the document's example and of the law's body, and facts of the row. Conditions: none. -/
import Derived.Test.YtcagaoplekniaaaGreatDoorTieL
namespace Go.Proofs.YtcagaoplekniaaaGreatDoor
open Go
theorem tz_pin : Tryz.pinned.checked.prog.pinnedFits "unicode/utf8.first" = true := by kernel_rfl
theorem tz_unsafe : Tryz.pinned.checked.prog.headLifts.contains "ownunsafe" = false := by kernel_rfl
theorem tz_fits : Tryz.pinned.checked.prog.listedFits (("unicode/utf8.first", Rows.laid_unicode_utf8_first) :: tieL) = true := by
  unfold Program.listedFits
  rw [tz_unsafe]
  kernel_rfl
end Go.Proofs.YtcagaoplekniaaaGreatDoor

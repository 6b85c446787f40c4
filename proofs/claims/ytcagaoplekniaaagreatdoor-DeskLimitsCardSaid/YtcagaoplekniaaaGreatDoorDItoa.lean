/- A part of the proof of DeskLimits: the runs of the document's example and of the law's body, and facts of the row. Conditions: none. -/
import Derived.Test.YtcagaoplekniaaaGreatDoorDMust
import Derived.Laws.BitsAll
import Derived.Laws.BytesString
namespace Go.Proofs
open Go.RowKit Go.Lib

set_option maxRecDepth 1000000 in
set_option maxHeartbeats 4000000 in
theorem len370 (w : World) : Calls Tryz.prog 143 #[.int .u64 370] w fun e w' => e = .returned (.int .i64 9) ∧ w' = w := by
  go_enter Tryz.func143, Tryz.ntmps143
  go_wp2
  go_ret
  exact ⟨by kernel_rfl, rfl⟩
set_option maxRecDepth 1000000 in
set_option maxHeartbeats 4000000 in
theorem log9 (w : World) : Calls Tryz.prog 142 #[.int .i64 9] w fun e w' => e = .returned (.int .i64 2) ∧ w' = w := by
  go_enter Tryz.func142, Tryz.ntmps142
  go_wp2
  go_ret
  exact ⟨rfl, rfl⟩
set_option maxRecDepth 1000000 in
theorem b2i (w : World) : Calls Tryz.prog 144 #[.bool true] w fun e w' => e = .returned (.int .i64 1) ∧ w' = w := by
  go_enter Tryz.func144, Tryz.ntmps144
  go_wp2
  go_ret
  exact ⟨rfl, rfl⟩
set_option maxRecDepth 1000000 in
set_option maxHeartbeats 4000000 in
theorem numDigits370 (w : World) (hc : w.cell? ⟨0, 2, none⟩ = some (.int .u64 100)) : Calls Tryz.prog 102 #[.int .u64 370] w fun e w' => e = .returned (.int .i64 3) ∧ w' = w := by
  go_enter Tryz.func102, Tryz.ntmps102
  go_wp2_with (fail)
  refine (len370 _).mono ?_
  rintro e W ⟨rfl, rfl⟩
  go_wp2_with (fail)
  refine (log9 _).mono ?_
  rintro e W ⟨rfl, rfl⟩
  go_wp2_with (fail)
  refine (b2i _).mono ?_
  rintro e W ⟨rfl, rfl⟩
  go_wp2_with (fail)
  go_ret
  exact ⟨rfl, rfl⟩
end Go.Proofs

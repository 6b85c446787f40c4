/- For every command the law ToolNone of espalierlaw26 returns true and leaves its argument as it was (the tied card). Conditions: none. -/
import Derived.Test.YtfbgkejejffgbaaGreatDoorFinalB
namespace Go.Proofs.YtfbgkejejffgbaaGreatDoor
open Go

theorem toolNone_card : Rows.ToolNoneCardSaid :=
  Claim7.holds_tied_plain_at .later [] [.data, .data, .data, .data, .pinned] true (true, "bad1079f9c0b5c66408724106bf6b3536c2139142ad3a46f79fdd9cdf8ddf501") true
    toolNone_holds (fun _ h => by cases h) (by kernel_rfl) (fun _ h => by cases h) toolNone_row_tie rfl ⟨rfl, rfl⟩ (by kernel_rfl) rfl
    (fun f fn hf hfn => by
      obtain rfl : f = 3 := Option.some.inj ((show Tryz.prog.funcNamed "espalier/espalierlaw26.ToolNone" = some 3 by kernel_rfl).symm.trans hf) |>.symm
      obtain rfl : fn = Tryz.f3 := (Option.some.inj (Tryz.func3.symm.trans hfn)).symm
      exact ⟨by kernel_rfl, fun j t ht => by
        rw [Tryz.params3] at ht
        have hm : t ∈ [30] := by simpa using Array.mem_of_getElem? ht
        have hall : ([30].all fun u => !Tryz.prog.wantsStandIn u) = true := by kernel_rfl
        exact (show Tryz.prog.wantsStandIn t = false by simpa using List.all_eq_true.1 hall t hm)⟩)
    (goesBy_none noGo rfl)
#print axioms toolNone_card
end Go.Proofs.YtfbgkejejffgbaaGreatDoor

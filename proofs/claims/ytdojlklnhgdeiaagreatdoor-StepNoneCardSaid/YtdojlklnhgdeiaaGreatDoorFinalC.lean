/- A step, or a look, with no carver, no Map or refs' names that may not be is refused just as the document says, whatever the names and the commit are (StepNone, the tied card). Conditions: none. -/
import Derived.Test.YtdojlklnhgdeiaaGreatDoorFinalB
namespace Go.Proofs.YtdojlklnhgdeiaaGreatDoor
open Go

theorem stepNone_card : Rows.StepNoneCardSaid :=
  Claim7.holds_tied_plain_at .later [] [.data, .data, .data, .data, .pinned] true (true, "c7b74549c673c8d019647f73062317c4cb6ffa455c81400ef6f9d916cc71afc8") true
    stepNone_holds (fun _ h => by cases h) (by kernel_rfl) (fun _ h => by cases h) stepNone_row_tie rfl ⟨rfl, rfl⟩ (by kernel_rfl) rfl
    (fun f fn hf hfn => by
      obtain rfl : f = 3 := Option.some.inj ((show Tryz.prog.funcNamed "espalier/espalierlaw22.StepNone" = some 3 by kernel_rfl).symm.trans hf) |>.symm
      obtain rfl : fn = Tryz.f3 := (Option.some.inj (Tryz.func3.symm.trans hfn)).symm
      exact ⟨by kernel_rfl, fun j t ht => by
        rw [Tryz.params3] at ht
        have hm : t ∈ [9, 9, 26] := by simpa using Array.mem_of_getElem? ht
        have hall : ([9, 9, 26].all fun u => !Tryz.prog.wantsStandIn u) = true := by kernel_rfl
        exact (show Tryz.prog.wantsStandIn t = false by simpa using List.all_eq_true.1 hall t hm)⟩)
    (goesBy_none noGo rfl)
#print axioms stepNone_card
end Go.Proofs.YtdojlklnhgdeiaaGreatDoor

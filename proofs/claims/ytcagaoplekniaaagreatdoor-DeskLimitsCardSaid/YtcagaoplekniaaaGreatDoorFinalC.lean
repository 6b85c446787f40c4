/- What is not there and what is too long is refused by the desk just as the document says, whatever the text and the number of blanks are (DeskLimits, the tied card). Conditions: none. -/
import Derived.Test.YtcagaoplekniaaaGreatDoorFinalB
import Derived.Test.YtcagaoplekniaaaGreatDoorTieZ
import Derived.Test.YtcagaoplekniaaaGreatDoorCards
namespace Go.Proofs.YtcagaoplekniaaaGreatDoor
open Go

theorem deskLimits_card : Rows.DeskLimitsCardSaid :=
  Claim7.holds_tied_plain_at .later [] [.pinned, .data, .data, .data, .data, .sentinel, .sentinel] true (true, "b3ce54e90116e366ef03e2803b8dcb0166c8dd06634ef7a380182f8a7b9def9b") true
    deskLimits_holds (fun _ h => by cases h) (by kernel_rfl) (fun _ h => by cases h) row_tieZ rfl ⟨rfl, rfl⟩ (by kernel_rfl) rfl
    (fun f fn hf hfn => by
      obtain rfl : f = 3 := Option.some.inj ((show Tryz.prog.funcNamed "espalier/espalierlaw27.DeskLimits" = some 3 by kernel_rfl).symm.trans hf) |>.symm
      obtain rfl : fn = Tryz.f3 := (Option.some.inj (Tryz.func3.symm.trans hfn)).symm
      exact ⟨by kernel_rfl, fun j t ht => by
        rw [Tryz.params3] at ht
        have hm : t ∈ [9, 3] := by simpa using Array.mem_of_getElem? ht
        have hall : ([9, 3].all fun u => !Tryz.prog.wantsStandIn u) = true := by kernel_rfl
        exact (show Tryz.prog.wantsStandIn t = false by simpa using List.all_eq_true.1 hall t hm)⟩)
    (goesBy_none noGo rfl)
#print axioms deskLimits_card
end Go.Proofs.YtcagaoplekniaaaGreatDoor

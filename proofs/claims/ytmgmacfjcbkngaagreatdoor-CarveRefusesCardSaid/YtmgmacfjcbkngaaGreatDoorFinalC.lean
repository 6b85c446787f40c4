/- For every host and side the law CarveRefuses of espalierlaw19 returns true and leaves its arguments as they were (the tied card). Conditions: none. -/
import Derived.Test.YtmgmacfjcbkngaaGreatDoorFinalB
namespace Go.Proofs.YtmgmacfjcbkngaaGreatDoor
open Go

theorem carveRefuses_card : Rows.CarveRefusesCardSaid :=
  Claim7.holds_tied_plain_at .later [] [.data, .data, .data, .data, .pinned] true (true, "1b00a1fb635d2f4d6e222790c153b254263f8de6b19bc400be3b7e7a62ae64a6") true
    carveRefuses_holds (fun _ h => by cases h) (by kernel_rfl) (fun _ h => by cases h) carveRefuses_row_tie rfl ⟨rfl, rfl⟩ (by kernel_rfl) rfl
    (fun f fn hf hfn => by
      obtain rfl : f = 3 := Option.some.inj ((show Tryz.prog.funcNamed "espalier/espalierlaw19.CarveRefuses" = some 3 by kernel_rfl).symm.trans hf) |>.symm
      obtain rfl : fn = Tryz.f3 := (Option.some.inj (Tryz.func3.symm.trans hfn)).symm
      exact ⟨by kernel_rfl, fun j t ht => by
        rw [Tryz.params3] at ht
        have hm : t ∈ [9, 9] := by simpa using Array.mem_of_getElem? ht
        have hall : ([9, 9].all fun u => !Tryz.prog.wantsStandIn u) = true := by kernel_rfl
        exact (show Tryz.prog.wantsStandIn t = false by simpa using List.all_eq_true.1 hall t hm)⟩)
    (goesBy_none noGo rfl)
#print axioms carveRefuses_card
end Go.Proofs.YtmgmacfjcbkngaaGreatDoor

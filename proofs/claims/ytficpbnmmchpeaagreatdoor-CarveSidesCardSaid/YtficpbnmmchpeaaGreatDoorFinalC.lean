/- Sides that may not be are refused just as refs.Set refuses them, any other side is carved into, and a host that is no commit is told as none, whatever the side's name and the id are (CarveSides, the tied card). Conditions: none. -/
import Derived.Test.YtficpbnmmchpeaaGreatDoorFinalB
namespace Go.Proofs.YtficpbnmmchpeaaGreatDoor
open Go

theorem carveSides_card : Rows.CarveSidesCardSaid :=
  Claim7.holds_tied_plain_at .later [] [.data, .data, .data, .data, .pinned] true (true, "a8cd7af06ec331b8be7da61702abf6d183a046e3b20ee5b23515ccc8edbb4251") true
    carveSides_holds (fun _ h => by cases h) (by kernel_rfl) (fun _ h => by cases h) carveSides_row_tie rfl ⟨rfl, rfl⟩ (by kernel_rfl) rfl
    (fun f fn hf hfn => by
      obtain rfl : f = 3 := Option.some.inj ((show Tryz.prog.funcNamed "espalier/espalierlaw19.CarveSides" = some 3 by kernel_rfl).symm.trans hf) |>.symm
      obtain rfl : fn = Tryz.f3 := (Option.some.inj (Tryz.func3.symm.trans hfn)).symm
      exact ⟨by kernel_rfl, fun j t ht => by
        rw [Tryz.params3] at ht
        have hm : t ∈ [9, 23] := by simpa using Array.mem_of_getElem? ht
        have hall : ([9, 23].all fun u => !Tryz.prog.wantsStandIn u) = true := by kernel_rfl
        exact (show Tryz.prog.wantsStandIn t = false by simpa using List.all_eq_true.1 hall t hm)⟩)
    (goesBy_none noGo rfl)
#print axioms carveSides_card
end Go.Proofs.YtficpbnmmchpeaaGreatDoor

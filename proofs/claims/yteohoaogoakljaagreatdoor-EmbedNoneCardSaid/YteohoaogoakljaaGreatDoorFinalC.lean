/- EmbedNone of the seat's law: the card, tied, for all ids. Conditions: none. -/
import Derived.Test.YteohoaogoakljaaGreatDoorFinalB
namespace Go.Proofs.YteohoaogoakljaaGreatDoor
open Go

theorem embedNone_card : Rows.EmbedNoneCardSaid :=
  Claim7.holds_tied_plain_at .later [] [.data, .pinned] true (true, "e8be80afd46b2b7ba30450b9c5e7f6fc08999abd6ac36f77c5a7913a0cb23179") true
    embedNone_holds (fun _ h => by cases h) (by kernel_rfl) (fun _ h => by cases h) embedNone_row_tie rfl ⟨rfl, rfl⟩ (by kernel_rfl) rfl
    (fun f fn hf hfn => by
      obtain rfl : f = 3 := Option.some.inj ((show Tryz.prog.funcNamed "espalier/espalierlaw20.EmbedNone" = some 3 by kernel_rfl).symm.trans hf) |>.symm
      obtain rfl : fn = Tryz.f3 := (Option.some.inj (Tryz.func3.symm.trans hfn)).symm
      exact ⟨by kernel_rfl, fun j t ht => by
        rw [Tryz.params3] at ht
        have hm : t ∈ [23, 23] := by simpa using Array.mem_of_getElem? ht
        have hall : ([23, 23].all fun u => !Tryz.prog.wantsStandIn u) = true := by kernel_rfl
        exact (show Tryz.prog.wantsStandIn t = false by simpa using List.all_eq_true.1 hall t hm)⟩)
    (goesBy_none noGo rfl)
#print axioms embedNone_card
end Go.Proofs.YteohoaogoakljaaGreatDoor

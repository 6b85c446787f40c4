/- What the audit tells of a disk with one file of whatever bytes is what the store's opening tells of it, and it leaves the disk as it was (AuditNone, the tied card). Conditions: none. -/
import Derived.Test.YtoohpocfhfemnaaGreatDoorFinalB
namespace Go.Proofs.YtoohpocfhfemnaaGreatDoor
open Go

theorem auditNone_card : Rows.AuditNoneCardSaid :=
  Claim7.holds_tied_plain_at .later [] [.data, .data, .data, .data, .pinned] true (true, "f4c52a44b14afc6c71ead7f0b495f66f1e04ccc305e0c521e550f4263e53c3fb") true
    auditNone_holds (fun _ h => by cases h) (by kernel_rfl) (fun _ h => by cases h) auditNone_row_tie rfl ⟨rfl, rfl⟩ (by kernel_rfl) rfl
    (fun f fn hf hfn => by
      obtain rfl : f = 3 := Option.some.inj ((show Tryz.prog.funcNamed "espalier/espalierlaw25.AuditNone" = some 3 by kernel_rfl).symm.trans hf) |>.symm
      obtain rfl : fn = Tryz.f3 := (Option.some.inj (Tryz.func3.symm.trans hfn)).symm
      exact ⟨by kernel_rfl, fun j t ht => by
        rw [Tryz.params3] at ht
        have hm : t ∈ [22] := by simpa using Array.mem_of_getElem? ht
        have hall : ([22].all fun u => !Tryz.prog.wantsStandIn u) = true := by kernel_rfl
        exact (show Tryz.prog.wantsStandIn t = false by simpa using List.all_eq_true.1 hall t hm)⟩)
    (goesBy_none noGo rfl)
#print axioms auditNone_card
end Go.Proofs.YtoohpocfhfemnaaGreatDoor

/- A part of the proof of AuditNone: the runs of the document's example and of the law's body, and facts of the row. Conditions: none. -/
import Derived.Test.YtoohpocfhfemnaaGreatDoorSeatOk
import Derived.Test.YtoohpocfhfemnaaGreatDoorEngM
import Derived.Test.YtoohpocfhfemnaaGreatDoorEngP
namespace Go.Eng
open Go Go.Proofs
set_option maxRecDepth 1000000
abbrev oStr : List Nat := [111, 98, 106, 101, 99, 116, 115]
/-- Does a run end in a slice of one text, and are these objects there? -/
noncomputable def okOne (tb : Tab) (rs : List ResultVar) (l : List Nat) (lout : List (Nat × EO)) (kout : Nat) (x : XR) : Bool :=
  match x with
  | .ret f h => match resE tb f h rs with
    | some [.slice n off len _ _] => Nat.beq len 1 && (match h.cell n off with
      | some (.str l') => strEq l l'
      | _ => false) && subL lout kout h && Nat.ble h.next kout
    | _ => false
  | _ => false
noncomputable def lin1 : List (Nat × EO) := [(1, .map [(.str oStr, .sym 0, 0)] 1), (2, .cells (T.node .leaf (some (.map 1)) .leaf) 57 false)]
noncomputable def lin0 : List (Nat × EO) := [(1, .map [] 0), (2, .cells (T.node .leaf (some (.map 1)) .leaf) 89 false)]
noncomputable def lout1 : List (Nat × EO) := [(1, .map [(.str oStr, .sym 0, 0)] 1)]
noncomputable def lout0 : List (Nat × EO) := [(1, .map [] 0)]
theorem run93 : okOne tb0 Tryz.f93.results.toList oStr lout1 1000000 ((execF tb0 100000 : Ex) false (bodyOf Tryz.f93) (initFr Tryz.f93.ntmps [.func (.func 132) [] [.ptr 2 0]]) ⟨litH lin1, 1024⟩) = true := by kernel_rfl
theorem run93e : okEnd tb0 Tryz.f93.results.toList .nilSlice lout0 1000000 ((execF tb0 100000 : Ex) false (bodyOf Tryz.f93) (initFr Tryz.f93.ntmps [.func (.func 157) [] [.ptr 2 0]]) ⟨litH lin0, 1024⟩) = true := by kernel_rfl
theorem runMay : okEnd tb0 Tryz.f17.results.toList (.bool true) [] 1000000 ((execF tb0 100000 : Ex) false (bodyOf Tryz.f17) (initFr Tryz.f17.ntmps [.str oStr]) ⟨.leaf, 1024⟩) = true := by kernel_rfl
theorem runCut1 : okEnd tb0 Tryz.f66.results.toList (.tuple [.str oStr, .bool false]) [] 1000000 ((execF tb0 100000 : Ex) false (bodyOf Tryz.f66) (initFr Tryz.f66.ntmps [.str oStr, .str [114, 117, 108, 101, 115, 45]]) ⟨.leaf, 1024⟩) = true := by kernel_rfl
theorem runCut2 : okEnd tb0 Tryz.f66.results.toList (.tuple [.str oStr, .bool false]) [] 1000000 ((execF tb0 100000 : Ex) false (bodyOf Tryz.f66) (initFr Tryz.f66.ntmps [.str oStr, .str [109, 101, 109, 111, 45]]) ⟨.leaf, 1024⟩) = true := by kernel_rfl
theorem runWk : okEnd tb0 Tryz.f4.results.toList (.bool true) [] 1000000 ((execF tb0 100000 : Ex) false (bodyOf Tryz.f4) (initFr Tryz.f4.ntmps []) ⟨.leaf, 1024⟩) = true := by kernel_rfl
end Go.Eng

/- A part of the proof of DeskLimits: the runs of the document's example and of the law's body, and facts of the row. Conditions: none. -/
import Derived.Test.YtcagaoplekniaaaGreatDoorInsertI
import Derived.Test.YtcagaoplekniaaaGreatDoorDDo
import Derived.Test.YtcagaoplekniaaaGreatDoorDItoa
namespace Go.Eng
open Go Go.RowKit Go.Proofs
set_option maxRecDepth 1000000
noncomputable def tbJ : Tab := withI kitJ
noncomputable def kitD (f : FuncId) : Option (List EV → EH → Option (EV × EH)) := cond (Nat.beq f 5) (some (doI tbJ 100000)) (kitJ f)
theorem runW27 : okRet 0 true ((execF (withI kitD) 100000 : Ex) false (bodyOf Tryz.f4) (initFr 25 []) ⟨.leaf, 1024⟩) = true := by kernel_rfl
noncomputable def numI (args : List EV) (h : EH) : Option (EV × EH) :=
  match args with
  | [.int .u64 n] => if n = 370 then some (.int .i64 3, h) else none
  | _ => none
noncomputable def kitN (f : FuncId) : Option (List EV → EH → Option (EV × EH)) := cond (Nat.beq f 102) (some numI) (kitJ f)
noncomputable def tbN : Tab := withI kitN
theorem runItoa : okEnd tbN Tryz.f10.results.toList (.str [51, 55, 48]) [] 9999 ((execF tbN 100000 : Ex) false (bodyOf Tryz.f10) (initFr Tryz.f10.ntmps [.int .i64 370]) ⟨.leaf, 1024⟩) = true := by kernel_rfl
end Go.Eng

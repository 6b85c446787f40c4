/- A part of the proof of SplitNone: the run of the document's example. Conditions: none. -/
import Derived.Test.YtkmkkgmkmhaekaaGreatDoorLitA
namespace Go.Eng
open Go
set_option maxRecDepth 1000000
noncomputable def okRet (t : Nat) (b : Bool) (x : XR) : Bool := XR.rec false (fun _ _ => false) (fun _ _ _ => false) (fun _ _ _ => false) (fun f _ => Option.rec false (fun e => EV.eqb (.bool b) e) (Fr.getF f t)) x
theorem runB : okRet 0 true ((execF tb1 100000 : Ex) false (Code.at [true, true] (bodyOf Go.Proofs.Tryz.f4)) ⟨78, T.set deep .leaf 1 (.ptr 1182 0)⟩ ⟨litH litA, 42773⟩) = true := by kernel_rfl
end Go.Eng

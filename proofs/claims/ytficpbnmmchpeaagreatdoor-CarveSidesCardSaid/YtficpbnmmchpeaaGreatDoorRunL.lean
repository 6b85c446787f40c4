/- A part of the proof of CarveSides: the runs of the document's example and of the law's body, and facts of the row. Conditions: none. -/
import Derived.Test.YtficpbnmmchpeaaGreatDoorSidesD
namespace Go.Eng
open Go Go.Proofs
set_option maxRecDepth 1000000
noncomputable def frmS (a b : EV) : List (Nat × EV) := [(0, a), (1, b), (5, .ptr 1305 0), (7, .slice 6929 0 1 none 1)]
theorem frmA_eq : frmA = frmS (.sym 0) (.sym 1) := rfl
/-- The law behind the host's ref, where the name or the number is told. -/
noncomputable def goL (kit : FuncId → Option (List EV → EH → Option (EV × EH))) (s : Bool) (q : Int → Option Bool) (a b : EV) : Bool := okRet 4 true ((execF (tbQ kit s q) 100000 : Ex) false (tail 6 lawB) ⟨127, litF (frmS a b)⟩ ⟨litH litA, 8163⟩)
theorem runEmpty : goL kitL false qNo (.str []) (.sym 1) = true := by kernel_rfl
theorem runHost : goL kitL false qNo (.str hostL) (.sym 1) = true := by kernel_rfl
/-- The name is told, the number is another one than these: the last carve by Head's own run. -/
noncomputable def goO : Bool := XR.rec (motive := fun _ => Bool) false (fun f h => okRet 4 true ((execF (tbQ kitJ false (qNot (0 :: 1 :: idsS))) 100000 : Ex) false (tail 9 lawB) f h)) (fun _ _ _ => false) (fun _ _ _ => false) (fun _ _ => false)
  (runL (execF (tbQ kitL false (qNot (0 :: 1 :: idsS))) 100000 : Ex) false (heads 3 (tail 6 lawB)) ⟨127, litF (frmS (.str otherL) (.sym 1))⟩ ⟨litH litA, 8163⟩)
theorem runOther : goO = true := by kernel_rfl
theorem runOther1 : allL (fun i => goL kitL false qNo (.str otherL) (.int .u64 i)) (0 :: 1 :: idsS) = true := by kernel_rfl
theorem runPath3 : goL (kitP 3) true qNo (.sym 0) (.sym 1) = true := by kernel_rfl
theorem runPath140 : goL (kitP 140) true qNo (.sym 0) (.sym 1) = true := by kernel_rfl
end Go.Eng

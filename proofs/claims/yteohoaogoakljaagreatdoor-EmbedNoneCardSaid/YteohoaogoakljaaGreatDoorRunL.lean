/- A part of the proof of EmbedNoneCardSaid: the runs of the document's example and of the law's body, and facts of the row. Conditions: none. -/
import Derived.Test.YteohoaogoakljaaGreatDoorEmbedCall
namespace Go.Eng
open Go
set_option maxRecDepth 1000000
theorem runL20 (a b : Int) : okRet 4 true ((execF tbW 100000 : Ex) false (bodyOf Go.Proofs.Tryz.f3) (initFr 201 [.int .u64 a, .int .u64 b]) ⟨.leaf, 1024⟩) = true := by kernel_rfl

/-- The law is true, whatever its arguments, and turns nothing that was. -/
theorem law_calls (a b : Int) (W : World) : Calls Go.Proofs.Tryz.prog 3 #[.int .u64 a, .int .u64 b] W fun e W' => e = .returned (.bool true) ∧ RowKit.Below W.heap.size W W' :=
  law_of_run okW (show tbW.fn 3 = some Go.Proofs.Tryz.f3 by kernel_rfl) rfl (by kernel_rfl) (runL20 a b) W
    (initFr_rel (args' := #[.int .u64 a, .int .u64 b]) (.cons _ _ _ _ (.int _ _) (.cons _ _ _ _ (.int _ _) .nil)) (by simp))
end Go.Eng

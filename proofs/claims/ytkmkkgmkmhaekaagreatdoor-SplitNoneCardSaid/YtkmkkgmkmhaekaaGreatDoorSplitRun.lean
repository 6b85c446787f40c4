/- A part of the proof of SplitNone: the run of the law's body. Conditions: none. -/
import Derived.Test.YtkmkkgmkmhaekaaGreatDoorWakesOk
namespace Go.Eng
open Go
set_option maxRecDepth 1000000
/-- The law's body, from nothing: its first argument a number, its second argument not looked at. -/
theorem runS (n : Int) : okRet 4 true ((execF tb2 100000 : Ex) false (bodyOf Go.Proofs.Tryz.f3) ⟨230, T.set deep .leaf 0 (.int .u64 n)⟩ ⟨.leaf, 1024⟩) = true := by kernel_rfl
end Go.Eng

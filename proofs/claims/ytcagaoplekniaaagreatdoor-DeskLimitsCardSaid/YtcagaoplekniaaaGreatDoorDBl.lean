/- A part of the proof of DeskLimits: the runs of the document's example and of the law's body, and facts of the row. Conditions: none. -/
import Derived.Test.YtcagaoplekniaaaGreatDoorWOk
import Derived.Test.YtcagaoplekniaaaGreatDoorDCut
import Derived.Test.YtcagaoplekniaaaGreatDoorDWords
namespace Go.Eng
open Go Go.RowKit Go.Proofs
set_option maxRecDepth 1000000
noncomputable def wordsS (args : List EV) (h : EH) : Option (EV × EH) := match args with | [.sym 0] => some (.tuple [.nilSlice, .agg [.int .i64 0, .int .i64 0]], h) | _ => none
noncomputable def cutS (args : List EV) (h : EH) : Option (EV × EH) := match args with | [.sym 0, .str [10]] => some (.tuple [.sym 0, .str [], .bool false], h) | _ => none
noncomputable def eqsB (n : Nat) (y : EV) : Option Bool := match n, y with | 0, .str [] => some false | _, _ => none
noncomputable def lensB (L : Nat) (n : Nat) : Option Nat := match n with | 0 => some L | _ => none
noncomputable def kitA (f : FuncId) : Option (List EV → EH → Option (EV × EH)) := cond (Nat.beq f 11) (some wordsS) (kitJ f)
noncomputable def tbA (L : Nat) : Tab := { withI kitA with eqs := eqsB, lens := lensB L }
noncomputable def kitB (L : Nat) (f : FuncId) : Option (List EV → EH → Option (EV × EH)) := cond (Nat.beq f 5) (some (doI (tbA L) 100000)) (cond (Nat.beq f 58) (some cutS) (kitJ f))
noncomputable def tbB (L : Nat) : Tab := { withI (kitB L) with eqs := eqsB, lens := lensB L }
noncomputable def goR (n : Nat) : Bool := okEnd (tbB (262124 + n)) Tryz.f8.results.toList (cond (Nat.ble n 20) (.tuple [.str [], .agg [.int .i64 0, .int .i64 0]]) (.tuple [.str [], .agg [.int .i64 3, .int .i64 262144]])) [] 99999 ((execF (tbB (262124 + n)) 100000 : Ex) false (bodyOf Tryz.f8) (initFr Tryz.f8.ntmps [.sym 0]) ⟨.leaf, 1024⟩)
theorem rAll : (List.range 40).all goR = true := by kernel_rfl
end Go.Eng

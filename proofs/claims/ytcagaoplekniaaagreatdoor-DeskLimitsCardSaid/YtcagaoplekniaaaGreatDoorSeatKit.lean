/- A part of the proof of DeskLimits: the program's tables as the interpreter reads them, and the library's functions at this program. Conditions: none. -/
import Derived.Test.YtcagaoplekniaaaGreatDoorSeatOk
import Derived.Test.YtcagaoplekniaaaGreatDoorEngN
namespace Go.Eng
open Go Go.RowKit Go.Proofs Go.Maps
variable [Syms]
/-- No contracts of the library are wanted here. -/
noncomputable def kitI (_ : FuncId) : Option (List EV → EH → Option (EV × EH)) := none
theorem kit_ok : ∀ g r, kitI g = some r → ∀ (args : List EV) (h : EH) (v : EV) (h' : EH), r args h = some (v, h') → ∀ (ρ : Ren) (w : World) (args' : Array Value), Rel Go.Proofs.Tryz.prog ρ h w → VRels ρ args args'.toList → CallOk Go.Proofs.Tryz.prog g args' w (CPost Go.Proofs.Tryz.prog ρ h w v h') := by
  intro g r h
  cases h
theorem okK : FnOk Go.Proofs.Tryz.prog (withI kitI) := okI kit_ok
end Go.Eng

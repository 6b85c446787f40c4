/- A part of the proof of EmbedNoneCardSaid: the runs of the document's example and of the law's body, and facts of the row. Conditions: none. -/
import Derived.Test.YteohoaogoakljaaGreatDoorSeatKit
import Derived.Test.YteohoaogoakljaaGreatDoorSeatMeets
import Derived.Test.YteohoaogoakljaaGreatDoorLitA
namespace Go.Eng
open Go
noncomputable def kitE (f : FuncId) : Option (List EV → EH → Option (EV × EH)) := cond (Nat.beq f 16) (some meetsI) (kitI f)
theorem kitE_ok : ∀ g r, kitE g = some r → IntrOk Go.Proofs.Tryz.prog g r := by
  intro g r h
  rcases okOpt h with ⟨b, e⟩ | ⟨_, e⟩
  · cases e
    obtain rfl := Nat.eq_of_beq_eq_true b
    exact meetsI_ok ok0
  · exact kit_ok g r e
theorem okE : FnOk Go.Proofs.Tryz.prog (withI kitE) := okI kitE_ok
end Go.Eng

/- A part of the proof of StepNone: the runs of the document's example and of the law's body, and facts of the row. Conditions: none. -/
import Derived.Test.YtdojlklnhgdeiaaGreatDoorSnKit
import Derived.Test.YtdojlklnhgdeiaaGreatDoorRunW
namespace Go.Eng
open Go Go.RowKit Go.Proofs
variable [Syms]
set_option maxRecDepth 1000000

theorem wakes_call {ρ : Ren} {h : EH} {w : World} {args' : Array Value} (hr : Rel Tryz.prog ρ h w) (ha : VRels ρ [] args'.toList) : CallOk Tryz.prog 4 args' w (CPost Tryz.prog ρ h w (.bool true) h) := by
  have hB := runW22
  rw [execF_eq] at hB
  obtain ⟨f1, h1, e1, g1⟩ := okRet_spec hB
  exact closed_of_sound okJ (show (withI kitJ).fn 4 = some Tryz.f4 by kernel_rfl) rfl (by kernel_rfl)
    (sound1_exec okJ e1 (fun e => by cases e)) g1 hr ha

theorem wakesC_ok : IntrOk Tryz.prog 4 (constI true) := by
  intro args h v h' he ρ w args' hr ha
  cases args with
  | nil => cases he; exact wakes_call hr ha
  | cons _ _ => cases he

noncomputable def kitW (f : FuncId) : Option (List EV → EH → Option (EV × EH)) := cond (Nat.beq f 4) (some (constI true)) (kitJ f)
theorem okW : FnOk Tryz.prog (withI kitW) := okI fun g r h => by
  rcases okOpt h with ⟨b, e⟩ | ⟨_, e⟩
  · cases e
    obtain rfl := Nat.eq_of_beq_eq_true b
    exact wakesC_ok
  · exact okJ.intr g r e

theorem okS {H S A T : ByteArray} {d : Int} (hH : Syms.val 0 = .string H) (hS : Syms.val 1 = .string S) (hA : Syms.val 2 = .string A) (hT : Syms.val 3 = .string T) (hd : Syms.val 6 = .int .i64 d)
    (lH : H.size ≤ 250) (lS : S.size ≤ 250) :
    FnOk Tryz.prog (tbS (pathD H).1 (pathD S).1 (namesD H S) (commitD A T) (strEq (ofBytes H) []) (strEq (ofBytes S) []) (strEq (ofBytes H) (ofBytes S))) where
  toTabOk := {
    und := tab0.und
    inf := tab0.inf
    fn := tab0.fn
    eqst := tab0.eqst
    eqs := by
      intro n y b he
      have he' : eqsS (strEq (ofBytes H) []) (strEq (ofBytes S) []) (strEq (ofBytes H) (ofBytes S)) n y = some b := he
      unfold eqsS at he'
      split at he'
      · cases he'; exact ⟨H, hH, .inl ⟨[], rfl, rfl⟩⟩
      · cases he'; exact ⟨S, hS, .inl ⟨[], rfl, rfl⟩⟩
      · cases he'; exact ⟨H, hH, .inr ⟨1, S, rfl, hS, rfl⟩⟩
      · cases he' }
  enter := ok0.enter
  ext := ok0.ext
  intr := fun g r h => by
    have h' : cond (Nat.beq g 4) (some (constI true)) (cond (Nat.beq g 8) (some (pathS (pathD H).1 (pathD S).1)) (cond (Nat.beq g 43) (some (namesS (namesD H S))) (cond (Nat.beq g 24) (some (commitS (commitD A T))) (kitJ g)))) = some r := h
    rcases okOpt h' with ⟨b, e⟩ | ⟨_, e⟩
    · cases e
      obtain rfl := Nat.eq_of_beq_eq_true b
      exact wakesC_ok
    rcases okOpt e with ⟨b, e⟩ | ⟨_, e⟩
    · cases e
      obtain rfl := Nat.eq_of_beq_eq_true b
      exact pathS_ok hH hS lH lS
    rcases okOpt e with ⟨b, e⟩ | ⟨_, e⟩
    · cases e
      obtain rfl := Nat.eq_of_beq_eq_true b
      exact namesS_ok hH hS lH lS
    rcases okOpt e with ⟨b, e⟩ | ⟨_, e⟩
    · cases e
      obtain rfl := Nat.eq_of_beq_eq_true b
      exact commitS_ok hA hT hd
    · exact okJ.intr g r e
  mixed := mixed0
end Go.Eng

/- A part of the proof of CarveRefuses: the runs of the document's example and of the law's body, and facts of the row. Conditions: none. -/
import Derived.Test.YtmgmacfjcbkngaaGreatDoorWakesA
import Derived.Test.YtmgmacfjcbkngaaGreatDoorWakesB
namespace Go.Eng
open Go
set_option maxRecDepth 1000000

theorem wakes_call {ρ : Ren} {h : EH} {w : World} {args' : Array Value} (hr : Rel Go.Proofs.Tryz.prog ρ h w) (ha : VRels ρ [] args'.toList) : CallOk Go.Proofs.Tryz.prog 4 args' w (CPost Go.Proofs.Tryz.prog ρ h w (.bool true) h) := by
  have hB := runB
  rw [execF_eq] at hB
  obtain ⟨f1, h1, e1, g1⟩ := okRet_spec hB
  exact closed_of_sound okJ (show (withI kitJ).fn 4 = some Go.Proofs.Tryz.f4 by kernel_rfl) rfl (by kernel_rfl)
    (sound1_parts okJ (d := 6) (by intro e; cases e) runA (sound1_exec okJ e1 (fun e => by cases e))) g1 hr ha

noncomputable def tbW : Tab := withI fun f => cond (Nat.beq f 4) (some (constI true)) none
theorem okW : FnOk Go.Proofs.Tryz.prog tbW := okI fun g r h => by
  rcases okOpt h with ⟨b, e⟩ | ⟨_, e⟩
  · cases e
    obtain rfl := Nat.eq_of_beq_eq_true b
    intro args h v h' he ρ w args' hr ha
    cases args with
    | nil => cases he; exact wakes_call hr ha
    | cons _ _ => cases he
  · cases e

theorem runL19 (a b : List Nat) : okRet 4 true ((execF tbW 100000 : Ex) false (bodyOf Go.Proofs.Tryz.f3) (initFr 151 [.str a, .str b]) ⟨.leaf, 1024⟩) = true := by kernel_rfl

/-- The law is true, whatever its arguments, and turns nothing that was. -/
theorem law_calls (a b : ByteArray) (W : World) : Calls Go.Proofs.Tryz.prog 3 #[.string a, .string b] W fun e W' => e = .returned (.bool true) ∧ RowKit.Below W.heap.size W W' :=
  law_of_run okW (show tbW.fn 3 = some Go.Proofs.Tryz.f3 by kernel_rfl) rfl (by kernel_rfl) (runL19 (ofBytes a) (ofBytes b)) W
    (initFr_rel (args' := #[.string a, .string b]) (.cons _ _ _ _ (.str _ _ rfl) (.cons _ _ _ _ (.str _ _ rfl) .nil)) (by simp))
end Go.Eng

/- A part of the proof of ToolNone: the runs of the document's example and of the law's body, and facts of the row. Conditions: none. -/
import Derived.Test.YtfbgkejejffgbaaGreatDoorWakesRun
namespace Go.Eng
open Go
set_option maxRecDepth 1000000

theorem wakes_call {ρ : Ren} {h : EH} {w : World} {args' : Array Value} (hr : Rel Go.Proofs.Tryz.prog ρ h w) (ha : VRels ρ [] args'.toList) : CallOk Go.Proofs.Tryz.prog 4 args' w (CPost Go.Proofs.Tryz.prog ρ h w (.bool true) h) := by
  have hA := runW
  rw [execF_eq] at hA
  obtain ⟨f1, h1, e1, g1⟩ := okRet_spec hA
  exact closed_of_sound okK (show (withI kitI).fn 4 = some Go.Proofs.Tryz.f4 by kernel_rfl) rfl (by kernel_rfl) (sound1_exec okK e1 (fun e => by cases e)) g1 hr ha

noncomputable def tbW : Tab := withI fun f => cond (Nat.beq f 4) (some (constI true)) none
theorem okW : FnOk Go.Proofs.Tryz.prog tbW := okI fun g r h => by
  rcases okOpt h with ⟨b, e⟩ | ⟨_, e⟩
  · cases e
    obtain rfl := Nat.eq_of_beq_eq_true b
    intro args h v h' he ρ w args' hr ha
    cases args with
    | nil => cases he; exact wakes_call hr ha
    | cons _ _ => cases he
  · cases e

theorem runL : okRet 2 true ((execF tbW 100000 : Ex) false (bodyOf Go.Proofs.Tryz.f3) (initFr 71 [.agg [.any, .any, .any, .any, .any, .any, .any, .any, .any, .any, .any, .any, .any]]) ⟨.leaf, 1024⟩) = true := by kernel_rfl

/-- The law is true, whatever its argument, and turns nothing that was. -/
theorem law_calls (cs : Array Value) (hn : cs.size = 13) (h1 : ∀ v ∈ cs.toList, v.oneCell' = true) (W : World) : Calls Go.Proofs.Tryz.prog 3 #[.agg cs] W fun e W' => e = .returned (.bool true) ∧ RowKit.Below W.heap.size W W' := by
  refine law_of_run okW (show tbW.fn 3 = some Go.Proofs.Tryz.f3 by kernel_rfl) rfl (by kernel_rfl) runL W ?_
  have hl : ∀ (l : List Value), (∀ v ∈ l, v.oneCell' = true) → VRels Ren.none (List.replicate l.length .any) l := by
    intro l
    induction l with
    | nil => intro _; exact .nil
    | cons a l ih => intro h; exact .cons _ _ _ _ (.any _ (h a List.mem_cons_self)) (ih fun v hv => h v (List.mem_cons_of_mem _ hv))
  have ha : VRels Ren.none [.agg (List.replicate 13 .any)] (#[.agg cs] : Array Value).toList := by
    refine .cons _ _ _ _ (.agg _ _ ?_) .nil
    have := hl cs.toList h1
    rwa [Array.length_toList, hn] at this
  exact initFr_rel ha (by simp)
end Go.Eng

/- A part of the proof of EmbedNoneCardSaid: the runs of the document's example and of the law's body, and facts of the row. Conditions: none. -/
import Derived.Test.YteohoaogoakljaaGreatDoorRunJA
import Derived.Test.YteohoaogoakljaaGreatDoorRunJB
import Derived.Test.YteohoaogoakljaaGreatDoorRunJC
import Derived.Test.YteohoaogoakljaaGreatDoorRunBA
import Derived.Test.YteohoaogoakljaaGreatDoorRunBB
import Derived.Test.YteohoaogoakljaaGreatDoorRunC
namespace Go.Eng
open Go
set_option maxRecDepth 1000000

noncomputable def joinI : List EV → EH → Option (EV × EH) := memoI argJ litJ 45421 outJ [] 121551
theorem joinI_ok : IntrOk Go.Proofs.Tryz.prog 7 joinI := by
  have h3 := runJ3
  rw [execF_eq] at h3
  obtain ⟨f, h1, vs, e, hvs, hv, hout⟩ := okEnd_spec h3
  have s3 : Sound1 Go.Proofs.Tryz.prog false (tail 1 (tail 10 (bodyOf Go.Proofs.Tryz.f7))) _ _ _ := sound1_exec okE e (fun e => by cases e)
  have s2 := sound1_parts okE (d := 1) (c := tail 10 (bodyOf Go.Proofs.Tryz.f7)) (by intro e; cases e) runJ2 s3
  have s1 := sound1_parts okE (d := 10) (c := bodyOf Go.Proofs.Tryz.f7) (by intro e; cases e) runJ1 s2
  exact memo_ok okE (show (withI kitE).fn 7 = some Go.Proofs.Tryz.f7 by kernel_rfl) rfl (of_decide_eq_true (by kernel_rfl)) s1 hvs hv hout

/-- born in wakes. -/
noncomputable def bornI : List EV → EH → Option (EV × EH) := memoI argB litB 1037 outB litW 45390
theorem bornI_ok : IntrOk Go.Proofs.Tryz.prog 5 bornI := by
  have h2 := runB2
  rw [execF_eq] at h2
  obtain ⟨f, h1, vs, e, hvs, hv, hout⟩ := okEnd_spec h2
  have s2 : Sound1 Go.Proofs.Tryz.prog false (tail 12 (bodyOf Go.Proofs.Tryz.f5)) _ _ _ := sound1_exec okE e (fun e => by cases e)
  have s1 := sound1_parts okE (d := 12) (c := bodyOf Go.Proofs.Tryz.f5) (by intro e; cases e) runB1 s2
  exact memo_ok okE (show (withI kitE).fn 5 = some Go.Proofs.Tryz.f5 by kernel_rfl) rfl (of_decide_eq_true (by kernel_rfl)) s1 hvs hv hout

/-- born in the law. -/
noncomputable def bornL : List EV → EH → Option (EV × EH) := memoI argC litC 1035 outC litC9 30500
theorem bornL_ok : IntrOk Go.Proofs.Tryz.prog 5 bornL := by
  have h1 := runC
  rw [execF_eq] at h1
  obtain ⟨f, h1, vs, e, hvs, hv, hout⟩ := okEnd_spec h1
  exact memo_ok okE (show (withI kitE).fn 5 = some Go.Proofs.Tryz.f5 by kernel_rfl) rfl (of_decide_eq_true (by kernel_rfl)) (sound1_exec okE e (fun e => by cases e)) hvs hv hout

noncomputable def kitW (f : FuncId) : Option (List EV → EH → Option (EV × EH)) := cond (Nat.beq f 7) (some joinI) (cond (Nat.beq f 5) (some bornI) (kitE f))
theorem okJoin : FnOk Go.Proofs.Tryz.prog (withI kitW) := okI fun g r h => by
  rcases okOpt h with ⟨b, e⟩ | ⟨_, e⟩
  · cases e
    obtain rfl := Nat.eq_of_beq_eq_true b
    exact joinI_ok
  rcases okOpt e with ⟨b, e⟩ | ⟨_, e⟩
  · cases e
    obtain rfl := Nat.eq_of_beq_eq_true b
    exact bornI_ok
  · exact kitE_ok g r e

theorem runW20 : okRet 0 true ((execF (withI kitW) 100000 : Ex) false (bodyOf Go.Proofs.Tryz.f4) (initFr 64 []) ⟨.leaf, 1024⟩) = true := by kernel_rfl

theorem wakes_call {ρ : Ren} {h : EH} {w : World} {args' : Array Value} (hr : Rel Go.Proofs.Tryz.prog ρ h w) (ha : VRels ρ [] args'.toList) : CallOk Go.Proofs.Tryz.prog 4 args' w (CPost Go.Proofs.Tryz.prog ρ h w (.bool true) h) := by
  have hB := runW20
  rw [execF_eq] at hB
  obtain ⟨f1, h1, e1, g1⟩ := okRet_spec hB
  exact closed_of_sound okE (show (withI kitE).fn 4 = some Go.Proofs.Tryz.f4 by kernel_rfl) rfl (by kernel_rfl)
    (sound1_exec okJoin e1 (fun e => by cases e)) g1 hr ha

noncomputable def kitL (f : FuncId) : Option (List EV → EH → Option (EV × EH)) := cond (Nat.beq f 4) (some (constI true)) (cond (Nat.beq f 5) (some bornL) (kitE f))
noncomputable def tbW : Tab := withI kitL
theorem okW : FnOk Go.Proofs.Tryz.prog tbW := okI fun g r h => by
  rcases okOpt h with ⟨b, e⟩ | ⟨_, e⟩
  · cases e
    obtain rfl := Nat.eq_of_beq_eq_true b
    intro args h v h' he ρ w args' hr ha
    cases args with
    | nil => cases he; exact wakes_call hr ha
    | cons _ _ => cases he
  rcases okOpt e with ⟨b, e⟩ | ⟨_, e⟩
  · cases e
    obtain rfl := Nat.eq_of_beq_eq_true b
    exact bornL_ok
  · exact kitE_ok g r e
end Go.Eng

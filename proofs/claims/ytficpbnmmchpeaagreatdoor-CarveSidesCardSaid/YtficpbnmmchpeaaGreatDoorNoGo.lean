/- A part of the proof of CarveSides: the runs of the document's example and of the law's body, and facts of the row. Conditions: none. -/
import Derived.Test.YtficpbnmmchpeaaGreatDoorCards
import Derived.SevenTiedAt
import Derived.ProofKit
namespace Go.Proofs.YtficpbnmmchpeaaGreatDoor
open Go
theorem goes_none {P : Program} (h : P.funcs.any Func.goes = false) (f : FuncId) : P.goes f = false := by
  have h' : ∀ (i : Nat) fn, P.funcs[i]? = some fn → Func.goes fn = false := by
    intro i fn hi
    rw [Array.any_eq_false] at h
    obtain ⟨hlt, e⟩ := Array.getElem?_eq_some_iff.1 hi
    have := h i hlt
    rw [e] at this
    simpa using this
  unfold Program.goes
  rw [h, Bool.and_false, Bool.or_false]
  rw [Bool.eq_false_iff]
  intro hc
  obtain ⟨g, _, hg⟩ := List.any_eq_true.1 (by simpa using hc)
  cases e : P.funcs[g]? with
  | none => rw [e] at hg; cases hg
  | some fn =>
    rw [e] at hg
    have h2 := h' g fn e
    have hg : Func.goes fn = true := hg
    rw [h2] at hg; cases hg

theorem goesBy_none {P : Program} {c : OpenClaim} (h : P.funcs.any Func.goes = false) (hs : c.start = .entering) : false = c.goesBy P := by
  unfold OpenClaim.goesBy Program.goesAt Program.goesFrom
  rw [hs]
  cases P.funcNamed c.func with
  | none => rfl
  | some f => show false = (P.goes f || false); rw [goes_none h]; rfl

theorem noGo : Tryz.prog.funcs.any Func.goes = false := by kernel_rfl
end Go.Proofs.YtficpbnmmchpeaaGreatDoor

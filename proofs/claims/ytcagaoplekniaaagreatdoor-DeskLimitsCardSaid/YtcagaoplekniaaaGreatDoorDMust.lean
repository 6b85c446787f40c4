/- A part of the proof of DeskLimits: the runs of the document's example and of the law's body, and facts of the row. Conditions: none. -/
import Derived.Test.YtcagaoplekniaaaGreatDoorProg
import Derived.WalkKit
import Derived.WalkSpells
import Derived.Deep.LoopGhost
import Derived.Lib.OthersKept
import Derived.Defers
import Derived.Recover
import Derived.RecoverIn
import Derived.WalkLawsBesides
namespace Go.Proofs
open Go.RowKit Go.Lib

theorem must_ok (w : World) : Calls Tryz.prog 12 #[.int .i64 0] w fun e w' => e = .returned (.tuple #[]) ∧ w' = w := by
  go_enter Tryz.func12, Tryz.ntmps12
  go_wp2
  go_end0
  exact ⟨rfl, rfl⟩

theorem must_panics (k : Int) (hk : k ≠ 0) (w : World) : Calls Tryz.prog 12 #[.int .i64 k] w fun e w' => w' = w ∧ e = .panicked [{ v := .iface 38 (.agg #[.int .i64 k]), recovered := false }] := by
  go_enter Tryz.func12, Tryz.ntmps12
  go_wp2
  exact ⟨rfl, rfl, rfl⟩

theorem ta_nil (w : World) : (Instr.typeAssert .nilIface 20 38 true).run Tryz.prog w = .ok (.tuple #[.agg #[.int .i64 0], .bool false]) w := by kernel_rfl
theorem ta_stop (k : Int) (w : World) : (Instr.typeAssert (.iface 38 (.agg #[.int .i64 k])) 20 38 true).run Tryz.prog w = .ok (.tuple #[.agg #[.int .i64 k], .bool true]) w := by kernel_rfl

set_option maxRecDepth 100000 in
theorem do1_idle (n : Nat) (p : Addr) (w : World) :
    CallsDIn Fence.wide n Tryz.prog 9 #[.pointer (some p)] .returning w fun e u' w' => e = .returned (.tuple #[]) ∧ u' = .returning ∧ Below w.heap.size w w' := by
  refine callsDIn_of_wpSIn Tryz.func9 rfl trivial fun c₀ cs hu => ?_
  apply wpSIn_seq
  apply wpSIn_region
  simp [wpOpsSIn, go_sem, recoverD, hu, Tryz.ntmps9, Exit.thenS, ta_nil]
  apply wpSIn_seq
  apply wpSIn_region
  simp [wpOpsSIn, go_sem, Exit.thenS]
  refine wpSIn_cond (t := false) (by simp [Act.eval, Array.replicate]) ?_
  simp only [Bool.false_eq_true, if_false]
  refine wpSIn_of_wpIn rfl (wpIn_skip ?_)
  have hb : Below w.heap.size w (w.alloc (Obj.cells #[Value.int IntKind.i64 0] 38)) := (Below.refl _ _).alloc (Nat.le_refl _) _
  cases c₀
  simp_all [bodyPostS, results, Tryz.results9]

set_option maxRecDepth 100000 in
theorem do1_stop (n : Nat) (p : Addr) (x : Value) (k : Int) (ds : ByteArray) (w : World) (hl : ds.size ≤ 100) (hp : p.block < w.heap.size) (hc : w.cell? p = some x) (hz : w.frozen? p = false)
    (hit : Calls Tryz.prog 10 #[.int .i64 k] (w.alloc (.cells #[.int .i64 k] 38)) fun e w' => e = .returned (.string ds) ∧ Below (w.alloc (.cells #[.int .i64 k] 38)).heap.size (w.alloc (.cells #[.int .i64 k] 38)) w') :
    CallsDIn Fence.wide n Tryz.prog 9 #[.pointer (some p)] (.panicking [{ v := .iface 38 (.agg #[.int .i64 k]), recovered := false }]) w fun e u' w' =>
      e = .returned (.tuple #[]) ∧ u' = .panicking [{ v := .iface 38 (.agg #[.int .i64 k]), recovered := true }] ∧ ∃ w1, Below w.heap.size w w1 ∧ w' = w1.setCell p (.string (⟨#[101, 114, 114, 111, 114, 32]⟩ ++ ds)) := by
  refine callsDIn_of_wpSIn Tryz.func9 rfl trivial fun c₀ cs hu => ?_
  apply wpSIn_seq
  apply wpSIn_region
  simp [wpOpsSIn, go_sem, recoverD, hu, Tryz.ntmps9, Exit.thenS, ta_stop]
  apply wpSIn_seq
  apply wpSIn_region
  simp [wpOpsSIn, go_sem, Exit.thenS]
  refine wpSIn_cond (t := true) (by simp [Act.eval, Array.replicate]) ?_
  simp only [if_true]
  refine wpSIn_of_wpIn rfl (wpIn_wide.2 ?_)
  simp [Array.replicate]
  go_wp2_with (fail)
  refine hit.mono ?_
  rintro e W ⟨rfl, hB⟩
  have hB2 : Below w.heap.size w W := ((Below.refl _ _).alloc (Nat.le_refl _) _).trans (hB.mono (by show _ ≤ (w.heap.push _).size; simp))
  have hcW : W.cell? p = some x := (hB2.cell hp).trans hc
  have hzW : W.frozen? p = false := (hB2.frozen hp).trans hz
  go_wp2_with (fail)
  exact ⟨rfl, _, rfl, .tuple #[], by simp [results, Tryz.results9], rfl, rfl, W, hB2, rfl⟩
end Go.Proofs

/- A part of the proof of SplitNone: the run of the law's body. Conditions: none. -/
import Derived.Test.YtkmkkgmkmhaekaaGreatDoorSplitRun
import Derived.Below
namespace Go.Eng
open Go

/-- The law is true, whatever its arguments, and turns nothing that was. -/
theorem split_calls (n : Int) (v1 : Value) (W : World) : Calls Go.Proofs.Tryz.prog 3 #[.int .u64 n, v1] W fun e W' => e = .returned (.bool true) ∧ RowKit.Below W.heap.size W W' := by
  have hS := runS n
  rw [execF_eq] at hS
  obtain ⟨f, hh, e, g⟩ := okRet_spec hS
  have hf : FRel Ren.none (⟨230, T.set deep .leaf 0 (.int .u64 n)⟩ : Fr) (#[.int .u64 n, v1] ++ Array.replicate (Go.Proofs.Tryz.f3.ntmps - (#[Value.int .u64 n, v1] : Array Value).size) undef) := by
    refine ⟨by rw [Array.size_append, Array.size_replicate, Go.Proofs.Tryz.ntmps3]; rfl, fun t e he => ?_⟩
    rcases T.get_set _ _ _ _ _ _ he with ⟨rfl, rfl⟩ | ⟨_, h2⟩
    · exact ⟨.int .u64 n, by simp, .int _ _⟩
    · cases h2
  have hc := calls_sound1 (ρ := Ren.none) (w := W) ok2 (g := 3) (fn := Go.Proofs.Tryz.f3) (c := bodyOf Go.Proofs.Tryz.f3) (vs := [.bool true]) (by kernel_rfl) rfl (sound1_exec ok2 e (fun e => by cases e)) (res_one g) (Rel.nothing 1024 W) hf 0
  refine (callsIn_wide.1 hc).mono ?_
  rintro e W' ⟨v', rfl, ρ', h1, h2, h3⟩
  cases h1
  exact ⟨rfl, h3.os, h3.tape, h3.output, h3.size, fun k hk => Extd.all_kept h3 k hk⟩
end Go.Eng

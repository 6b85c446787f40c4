/- A part of the proof of DeskLimits: the runs of the document's example and of the law's body, and facts of the row. Conditions: none. -/
import Derived.Test.YtcagaoplekniaaaGreatDoorDRun
import Derived.Test.YtcagaoplekniaaaGreatDoorDNil
import Derived.Test.YtcagaoplekniaaaGreatDoorDLaw
namespace Go.Eng
open Go Go.RowKit Go.Proofs
set_option maxRecDepth 1000000

/-- The law is true, whatever its arguments, and turns nothing that was: where the table of powers of ten lies as it does. -/
theorem law_calls (text : ByteArray) (b : Int) (W : World) (c : Array Value) (t : TypeId) (f : Nat × Nat) (h0 : W.heap[0]? = some (.cells c t f)) (h2 : c[2]? = some (.int .u64 100)) :
    Calls Tryz.prog 3 #[.string text, .int .i64 b] W fun e W' => e = .returned (.bool true) ∧ Below W.heap.size W W' := by
  have hz : 0 < W.heap.size := (Array.getElem?_eq_some_iff.1 h0).1
  have pins : ∀ (v : Nat → Value) (w : World), w.heap[0]? = some (.cells c t f) → ∀ b x, (Syms.mk v (fun b => if b = 0 then some (c, t, f) else none)).pin b = some x → w.heap[b]? = some (.cells x.1 x.2.1 x.2.2) := by
    intro v w hw b x e
    have e' : (if b = 0 then some (c, t, f) else none) = some x := e
    split at e'
    · rename_i hb
      subst hb
      cases e'
      exact hw
    · cases e'
  refine law_walk text b W (fun w => w.heap[0]? = some (.cells c t f)) h0 (fun w w' hw hb => by rw [hb.block 0 hz]; exact hw) blanks (fun _ => rfl) ?_ ?_ ?_ ?_
  · intro w hw
    letI : Syms := ⟨fun _ => .nilFunc, fun b => if b = 0 then some (c, t, f) else none⟩
    exact wakes_calls ⟨c, t, f, rfl, h2⟩ w (pins _ w hw)
  · intro w hw
    letI : Syms := ⟨fun _ => .nilFunc, fun b => if b = 0 then some (c, t, f) else none⟩
    exact do_nil text w (pins _ w hw)
  · intro w hw
    letI : Syms := ⟨fun _ => .nilFunc, fun b => if b = 0 then some (c, t, f) else none⟩
    exact new_nil w (pins _ w hw)
  · intro n w hn hw
    letI : Syms := ⟨fun _ => .string (blanks (262124 + n)), fun b => if b = 0 then some (c, t, f) else none⟩
    exact run_calls ⟨c, t, f, rfl, h2⟩ n hn rfl w (pins _ w hw)
end Go.Eng

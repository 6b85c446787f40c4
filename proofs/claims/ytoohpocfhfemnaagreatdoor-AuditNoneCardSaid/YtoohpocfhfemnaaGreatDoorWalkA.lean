/- A part of the proof of AuditNone: the runs of the document's example and of the law's body, and facts of the row. Conditions: none. -/
import Derived.Test.YtoohpocfhfemnaaGreatDoorProg
import Derived.WalkKit
import Derived.WalkSpells
import Derived.Deep.LoopGhost
import Derived.Lib.OthersKept
namespace Go.Proofs
open Go.RowKit Go.Lib

/-- A slice that holds these bytes. -/
def BytesAt (w : World) (v : Value) (l : List UInt8) : Prop :=
  (∃ b o c, v = .slice (some ⟨b, o, none⟩) l.length c ∧ l.length ≤ c ∧ b < w.heap.size ∧ ∀ i x, l[i]? = some x → w.cell? ⟨b, o + i, none⟩ = some (.int .u8 (x.toNat : Int))) ∨ (v = .slice none 0 0 ∧ l = [])

/-- One round of the hash, as the model tells it. -/
def hstep (h : Int) (x : UInt8) : Int := IntKind.u64.wrap (bits BinOp.xor IntKind.u64 h (IntKind.u64.wrap (x.toNat : Int)) * 1099511628211)
def hashD (l : List UInt8) : Int := l.foldl hstep 14695981039346656037

set_option maxRecDepth 1000000 in
set_option maxHeartbeats 2000000 in
theorem hash_any (l : List UInt8) (v : Value) (w : World) (hv : BytesAt w v l) (hlen : l.length ≤ 1000000000) : Calls Tryz.prog 50 #[v] w fun e w' => e = .returned (.int .u64 (hashD l)) ∧ w' = w := by
  rcases hv with ⟨b, o, c, rfl, hc, hb, hl⟩ | ⟨rfl, rfl⟩
  · go_enter Tryz.func50, Tryz.ntmps50
    go_wp2
    go_loopw [3, 5, 8] (fun h x i wr => ∃ k : Nat, i = .int .i64 (k : Int) ∧ h = .int .u64 (hashD (l.take k)) ∧ k ≤ l.length ∧ wr = w) (fun _ _ i _ => l.length - (RowKit.intOf i).toNat)
    case atStart => exact ⟨0, rfl, rfl, by omega, rfl⟩
    case round =>
      obtain ⟨k, rfl, rfl, hk, rfl⟩ := hrel
      by_cases hlt : k < l.length
      · obtain ⟨x, hx⟩ : ∃ x, l[k]? = some x := ⟨_, List.getElem?_eq_getElem hlt⟩
        have hcx := hl k x hx
        have hlt' : (k : Int) < (l.length : Int) := by omega
        have hw : wrap64 ((k : Int) + 1) = ((k + 1 : Nat) : Int) := by simp only [wrap64]; omega
        have hst : hashD (l.take (k + 1)) = hstep (hashD (l.take k)) x := by
          rw [List.take_add_one, hx]
          simp [hashD, List.foldl_append]
        have hxk : x = l[k] := by rw [List.getElem?_eq_getElem hlt] at hx; exact (Option.some.inj hx).symm
        subst hxk
        unfold hstep at hst
        generalize hashD (l.take k) = hh at hst ⊢
        go_wp2
        refine ⟨⟨k + 1, by first | rfl | simp, ?_, by omega, trivial⟩, by simp [RowKit.intOf]; omega⟩
        rw [hst]
      · have hk2 : k = l.length := by omega
        have hge : ¬ ((k : Int) < (l.length : Int)) := by omega
        go_wp2
        go_ret
        exact ⟨rfl, rfl⟩
  · go_enter Tryz.func50, Tryz.ntmps50
    go_wp2
    refine wp_loop_once ?_
    go_wp2
    go_ret
    exact ⟨rfl, rfl⟩
end Go.Proofs

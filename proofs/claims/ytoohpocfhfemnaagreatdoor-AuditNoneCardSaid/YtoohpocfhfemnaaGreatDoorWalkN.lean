/- A part of the proof of AuditNone: the runs of the document's example and of the law's body, and facts of the row. Conditions: none. -/
import Derived.Test.YtoohpocfhfemnaaGreatDoorWalkM
import Derived.RangeFuncNested
import Derived.RangeFuncBound
import Derived.RangeFuncCalls
import Derived.RangeFuncLeaves
import Derived.Shelf.Abstract
import Derived.Shelf.RegionOpen
import Derived.OwnWalkIn
import Derived.TacticsInMore
import Derived.LoopNIn
import Derived.LoopIn
namespace Go.Proofs
open Go.Shelf Go.RowKit Go.Lib
variable {I S : Nat → Prop}
attribute [local go_sem] Oper.semAt_some

set_option maxRecDepth 1000000 in
set_option maxHeartbeats 4000000 in
theorem jlen_any (j d B : Nat) (va vp : Value) (f : ByteArray) (all : List UInt8) (ps : List (Nat × Nat)) (sz : Nat) (w : World) (h : JAt w j d B va vp f all ps sz) :
    Calls Tryz.prog 54 #[.pointer (some ⟨j, 0, none⟩)] w fun e w' => e = .returned (.int .i64 ps.length) ∧ w' = w := by
  obtain ⟨a, c, rfl⟩ := slice_of_owns h.op
  have c3 := h.c3
  clear h
  go_enter Tryz.func54, Tryz.ntmps54
  go_wp2
  go_ret
  exact ⟨rfl, rfl⟩

set_option maxRecDepth 1000000 in
set_option maxHeartbeats 8000000 in
/-- The records, one by one, for whatever loop's body. -/
theorem each1_any (n l j d B Bx : Nat) (va vp : Value) (f : ByteArray) (rs : List (List UInt8)) (sz : Nat) (hl : rs.flatten.length ≤ 1000000) (hr : rs.length ≤ 1000000) (J : Nat → World → Prop) (Jx : World → Prop)
    (hJat : ∀ k W, J k W → JAt W j d B va vp f rs.flatten (partsOf rs 0) sz ∧ W.cell? ⟨Bx, 0, none⟩ = some (.pointer (some ⟨j, 0, none⟩)))
    (hJst : ∀ k A A', J k A → Below A.heap.size A A' → J k A')
    (hY : ∀ k v x W1, J k W1 → rs[k]? = some x → BytesOff W1 0 (fun _ => True) v x → YieldAt Fence.wide (n - 1) Tryz.prog l #[.int .i64 (k : Int), v] W1 fun e W' => (e = .returned (.bool true) ∧ J (k + 1) W') ∨ (e = .returned (.bool false) ∧ Jx W'))
    (W : World) (h0 : J 0 W) :
    CallsIn Fence.wide n Tryz.prog 53 #[.func (.yield l) #[] #[], .pointer (some ⟨Bx, 0, none⟩)] W fun e W' => (∃ v, e = .returned v) ∧ (J rs.length W' ∨ Jx W') := by
  refine callsIn_of_wp Tryz.func53 rfl trivial ?_ rfl
  simp only [Tryz.ntmps53, List.size_toArray, List.length_cons, List.length_nil, Nat.reduceAdd, Nat.reduceSub, Array.replicate_succ, Array.replicate_zero, List.push_toArray, List.append_toArray, List.nil_append, List.cons_append]
  obtain ⟨hj0, hb0⟩ := hJat 0 W h0
  gi_wp2_with (fail)
  refine ⟨trivial, fun h => absurd h (by decide), callsIn_wide.2 ((jlen_any j d B va vp f rs.flatten (partsOf rs 0) sz W hj0).mono ?_)⟩
  rintro e w2 ⟨rfl, rfl⟩
  rw [partsOf_len]
  clear hj0 hb0
  gi_wp2_with (fail)
  gi_loopw [6] (fun i wr => ∃ k : Nat, i = .int .i64 (k : Int) ∧ k ≤ rs.length ∧ J k wr) (fun i _ => rs.length - (RowKit.intOf i).toNat)
  case atStart => exact ⟨0, rfl, by omega, h0⟩
  case round =>
    obtain ⟨k, rfl, hk, hJ⟩ := hrel
    by_cases hlt : k < rs.length
    · obtain ⟨x, hx⟩ : ∃ x, rs[k]? = some x := ⟨_, List.getElem?_eq_getElem hlt⟩
      have hlt' : (k : Int) < (rs.length : Int) := by omega
      have hw : wrap64 ((k : Int) + 1) = ((k + 1 : Nat) : Int) := by simp only [wrap64]; omega
      have hw2 : IntKind.i64.wrap ((k : Int) + 1) = ((k + 1 : Nat) : Int) := by rw [IntKind.wrap_i64]; omega
      obtain ⟨hj0, hb0⟩ := hJat k _ hJ
      gi_wp2_with (fail)
      refine ⟨trivial, fun h => absurd h (by decide), callsIn_wide.2 ((payload_any j d B va vp f rs sz k x _ hj0 hx hl hr).mono ?_)⟩
      rintro e w3 ⟨v, rfl, hbv, hbl⟩
      obtain ⟨fn, tmps, assign, body, hy, hR⟩ := hY k v x w3 (hJst k _ _ hJ hbl) hx (hbv.imp fun _ _ => trivial)
      clear hj0 hb0 hbv hbl hJ hx
      gi_wp2_with (fail)
      refine ⟨fun h => absurd h (by decide), hR.mono ?_⟩
      rintro e w4 (⟨rfl, hJ4⟩ | ⟨rfl, hx4⟩)
      · gi_wp2_with (fail)
        exact ⟨⟨k + 1, by first | rfl | simp, by omega, hJ4⟩, by simp [RowKit.intOf]; omega⟩
      · gi_wp2_with (fail)
        refine bodyPost_ret (results_none rfl _ _ _) rfl ?_
        exact ⟨⟨_, rfl⟩, .inr hx4⟩
    · have hge : ¬ ((k : Int) < (rs.length : Int)) := by omega
      obtain rfl : k = rs.length := by omega
      gi_wp2_with (fail)
      go_end0
      exact ⟨⟨_, rfl⟩, .inl hJ⟩
end Go.Proofs

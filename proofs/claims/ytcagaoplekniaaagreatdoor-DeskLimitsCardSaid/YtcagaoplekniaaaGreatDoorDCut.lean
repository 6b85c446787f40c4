/- A part of the proof of DeskLimits: the runs of the document's example and of the law's body, and facts of the row. Conditions: none. -/
import Derived.Test.YtcagaoplekniaaaGreatDoorDMust
import Derived.Lib.Bytealg
import Derived.BigCall
import Derived.BigGuard
import Derived.Laws.Strings3
import Derived.Shelf.RegionOpenPlain
namespace Go.Proofs
open Go.RowKit Go.Lib

set_option maxRecDepth 1000000 in
set_option maxHeartbeats 2000000 in
theorem idxb (s : ByteArray) (c : Int) (w : World) : Calls Tryz.prog 63 #[.string s, .int .u8 c] w fun e w' => e = .returned (.int .i64 (Lib.indexByte s.data.toList c.toNat.toUInt8)) ∧ w' = w := by
  go_enter Tryz.func63, Tryz.ntmps63
  go_wp2
  rw [run_callFunc_extern Tryz.func107 (by kernel_rfl) (by kernel_rfl) (by kernel_rfl) (e := Extern.BytealgIndexByte.indexByte) (by kernel_rfl), Lib.run_indexByteString]
  simp only [Result.andThen]
  rw [Oper.upon_value]
  go_wp2
  go_ret
  exact ⟨rfl, rfl⟩

set_option maxRecDepth 1000000 in
set_option maxHeartbeats 2000000 in
theorem index1 (s : ByteArray) (hs : 2 ≤ s.size) (w : World) : Calls Tryz.prog 141 #[.string s, .string ⟨#[10]⟩] w fun e w' => e = .returned (.int .i64 (Lib.indexByte s.data.toList 10)) ∧ w' = w := by
  have hb : ([10] == s.toList) = false := by
    have hl : s.toList.length = s.size := by rw [toList_data]; rfl
    rw [beq_eq_false_iff_ne]
    intro e
    rw [← e] at hl
    simp at hl
    omega
  go_enter Tryz.func141, Tryz.ntmps141
  go_wp2_with (fail)
  refine (idxb s _ _).mono ?_
  rintro e w' ⟨rfl, rfl⟩
  go_wp2_with (fail)
  go_ret
  exact ⟨rfl, rfl⟩

set_option maxRecDepth 1000000 in
set_option maxHeartbeats 2000000 in
theorem cut_miss (s : ByteArray) (hs : 2 ≤ s.size) (h : Lib.indexByte s.data.toList 10 = -1) (w : World) : Calls Tryz.prog 58 #[.string s, .string ⟨#[10]⟩] w fun e w' => e = .returned (.tuple #[.string s, .string ⟨#[]⟩, .bool false]) ∧ w' = w := by
  go_enter Tryz.func58, Tryz.ntmps58
  go_wp2_with (fail)
  have inner : Calls Tryz.prog 99 #[.string s, .string ⟨#[10]⟩] w fun e w' => e = .returned (.tuple #[.string s, .string ⟨#[]⟩, .bool false]) ∧ w' = w := by
    go_enter Tryz.func99, Tryz.ntmps99
    go_wp2_with (fail)
    refine (index1 s hs _).mono ?_
    rintro e w' ⟨rfl, rfl⟩
    rw [h]
    go_wp2_with (fail)
    go_ret3
    exact ⟨rfl, rfl⟩
  refine inner.mono ?_
  rintro e w' ⟨rfl, rfl⟩
  go_wp2_with (fail)
  go_ret3
  exact ⟨rfl, rfl⟩
end Go.Proofs

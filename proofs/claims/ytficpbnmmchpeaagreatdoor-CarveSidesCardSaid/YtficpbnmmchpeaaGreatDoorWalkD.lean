/- A part of the proof of CarveSides: the runs of the document's example and of the law's body, and facts of the row. Conditions: none. -/
import Derived.Test.YtficpbnmmchpeaaGreatDoorWalkC
import Derived.Shelf.Strings.Split
namespace Go.Proofs
open Go.Shelf Go.RowKit Go.Lib

theorem splitB_le (sep : ByteArray) (sv : Nat) : ∀ (k : Nat) (s n : ByteArray), n ∈ Lib.splitB sep sv k s → n.size ≤ s.size := by
  intro k
  induction k with
  | zero => intro s n h; rw [Lib.splitB_zero, List.mem_singleton] at h; rw [h]; exact Nat.le_refl _
  | succ k ih =>
    intro s n h
    rw [Lib.splitB] at h
    split at h
    · rw [List.mem_singleton] at h; rw [h]; exact Nat.le_refl _
    · rcases List.mem_cons.1 h with e | e
      · rw [e, ByteArray.size_extract]; omega
      · have := ih _ _ e
        rw [ByteArray.size_extract] at this
        omega
theorem pieces_le : ∀ s n, n ∈ pieces s → n.size ≤ s.size := fun s n h => splitB_le _ _ _ s n h

set_option maxHeartbeats 1000000 in
set_option maxRecDepth 1000000 in
/-- strings.Split at a stroke, where genSplit is laid. -/
theorem split_ok {ρ : Ren} (L : Lays.n221 Tryz.prog ρ) (e221 : ρ.f 221 = 133) (e9 : ρ.t 9 = 9) : SplitOk := by
  intro s w hs
  have hi9 : (Tryz.prog.info? (ρ.t 9)).map (fun i => (i.zero, i.size, i.bytes)) = some (some (.string ByteArray.empty), 1, 16) := by rw [e9]; kernel_rfl
  have h1 : 1 ≤ (⟨#[47]⟩ : ByteArray).size := by decide
  have hle := Lib.countB_le ⟨#[47]⟩ h1 s.size s (Nat.le_refl _)
  have hlen := Lib.splitB_all ⟨#[47]⟩ h1 0 _ s rfl
  have c := Any.strings_genSplit_core L hi9 s ⟨#[47]⟩ 0 (-1) (Lib.countB s ⟨#[47]⟩ + 1) w (by omega) h1 (Nat.zero_le _)
    (fun x c hx => (Any.strings_Index_one { L with } x 47 _).mono fun e w' ⟨he, hw⟩ => ⟨by
      rw [he]
      show _ = Ending.returned (Value.int .i64 (Lib.index x.data.toList [47]))
      rw [Lib.index_one], hw⟩)
    ((Any.strings_Count_one { L with } s 47 w).mono fun e w' ⟨he, hw⟩ => ⟨by
      rw [he]
      show _ = Ending.returned (Value.int .i64 ((Lib.count s.data.toList [47] : Nat) : Int))
      rw [Lib.count_one]
      rfl, hw⟩) (by decide) (by decide) (by rw [if_pos (by decide)]; omega)
  rw [Nat.add_sub_cancel, hlen, e221, e9] at c
  have e2 : Lib.cellsOf (Lib.splitB ⟨#[47]⟩ 0 (Lib.countB s ⟨#[47]⟩) s) (Lib.countB s ⟨#[47]⟩ + 1) = ((pieces s).map Value.string).toArray := by rw [← hlen]; exact Lib.cellsOf_full _
  rw [e2] at c
  have hl2 : (pieces s).length = Lib.countB s ⟨#[47]⟩ + 1 := hlen
  rw [hl2]
  go_enter Tryz.func104, Tryz.ntmps104
  go_wp2_with (fail)
  refine c.mono ?_
  rintro e w' ⟨rfl, hw⟩
  subst hw
  go_wp2_with (fail)
  go_ret
  exact ⟨rfl, rfl⟩
end Go.Proofs

namespace Go.Proofs
open Go.Shelf Go.RowKit Go.Lib
set_option maxRecDepth 100000

def Tryz.splitS_ren : Go.Shelf.Ren := ⟨fun | 221 => 133 | 268 => 170 | 138 => 171 | 143 => 172 | 195 => 210 | 197 => 211 | 218 => 212 | 219 => 213 | 260 => 242 | 217 => 243 | 225 => 244 | 224 => 245 | 267 => 246 | 266 => 278 | 314 => 279 | n => n, fun | 9 => 9 | 3 => 3 | 31 => 100 | 4 => 4 | 0 => 0 | 105 => 351 | 21 => 21 | 5 => 5 | 46 => 155 | 119 => 419 | 139 => 422 | 138 => 421 | 146 => 423 | 51 => 304 | n => n, fun | 1 => 0 | 3 => 1 | 4 => 2 | n => n⟩
theorem Tryz.splitS : Go.Proofs.Lays.n221 Tryz.prog Tryz.splitS_ren :=
  { mixed := by kernel_rfl,
    f138 := Tryz.func171.trans (congrArg some (by kernel_rfl)),
    f143 := Tryz.func172.trans (congrArg some (by kernel_rfl)),
    f195 := Tryz.func210.trans (congrArg some (by kernel_rfl)),
    f197 := Tryz.func211.trans (congrArg some (by kernel_rfl)),
    f217 := Tryz.func243.trans (congrArg some (by kernel_rfl)),
    f218 := Tryz.func212.trans (congrArg some (by kernel_rfl)),
    f219 := Tryz.func213.trans (congrArg some (by kernel_rfl)),
    f221 := Tryz.func133.trans (congrArg some (by kernel_rfl)),
    f224 := Tryz.func245.trans (congrArg some (by kernel_rfl)),
    f225 := Tryz.func244.trans (congrArg some (by kernel_rfl)),
    f260 := Tryz.func242.trans (congrArg some (by kernel_rfl)),
    f266 := Tryz.func278.trans (congrArg some (by kernel_rfl)),
    f267 := Tryz.func246.trans (congrArg some (by kernel_rfl)),
    f268 := Tryz.func170.trans (congrArg some (by kernel_rfl)),
    f314 := Tryz.func279.trans (congrArg some (by kernel_rfl)),
    t0 := Tryz.underlying0,
    a0 := Tryz.isAgg0,
    z0 := Tryz.sizeOf0,
    v0 := Tryz.zeroValue0,
    t3 := Tryz.underlying3,
    a3 := Tryz.isAgg3,
    z3 := Tryz.sizeOf3,
    v3 := Tryz.zeroValue3,
    t4 := Tryz.underlying4,
    a4 := Tryz.isAgg4,
    z4 := Tryz.sizeOf4,
    v4 := Tryz.zeroValue4,
    t5 := Tryz.underlying5,
    a5 := Tryz.isAgg5,
    z5 := Tryz.sizeOf5,
    v5 := Tryz.zeroValue5,
    t9 := Tryz.underlying9,
    a9 := Tryz.isAgg9,
    z9 := Tryz.sizeOf9,
    v9 := Tryz.zeroValue9,
    t21 := Tryz.underlying21,
    a21 := Tryz.isAgg21,
    z21 := Tryz.sizeOf21,
    v21 := Tryz.zeroValue21,
    t31 := Tryz.underlying100,
    a31 := Tryz.isAgg100,
    z31 := Tryz.sizeOf100,
    v31 := Tryz.zeroValue100,
    t46 := Tryz.underlying155,
    a46 := Tryz.isAgg155,
    z46 := Tryz.sizeOf155,
    v46 := Tryz.zeroValue155,
    t51 := Tryz.underlying304,
    a51 := Tryz.isAgg304,
    z51 := Tryz.sizeOf304,
    v51 := Tryz.zeroValue304,
    t105 := Tryz.underlying351,
    a105 := Tryz.isAgg351,
    z105 := Tryz.sizeOf351,
    v105 := Tryz.zeroValue351,
    t119 := Tryz.underlying419,
    a119 := Tryz.isAgg419,
    z119 := Tryz.sizeOf419,
    t138 := Tryz.underlying421,
    a138 := Tryz.isAgg421,
    z138 := Tryz.sizeOf421,
    v138 := Tryz.zeroValue421,
    t139 := Tryz.underlying422,
    a139 := Tryz.isAgg422,
    z139 := Tryz.sizeOf422,
    v139 := Tryz.zeroValue422,
    t146 := Tryz.underlying423,
    a146 := Tryz.isAgg423,
    z146 := Tryz.sizeOf423,
    v146 := Tryz.zeroValue423,
    g1 := by kernel_rfl,
    g3 := by kernel_rfl,
    g4 := by kernel_rfl }


theorem split_holds : SplitOk := split_ok Tryz.splitS rfl rfl
/-- name.Path. -/
theorem namepath_holds (s : ByteArray) (w : World) : Calls Tryz.prog 28 #[.string s] w fun e w' => e = .returned (.agg #[.int .i64 (pathD s).1, .int .i64 (pathD s).2]) ∧ Below w.heap.size w w' :=
  namepath_any split_holds pieces_le s w
end Go.Proofs

/- A part of the proof of StepNone: the runs of the document's example and of the law's body, and facts of the row. Conditions: none. -/
import Derived.Test.YtdojlklnhgdeiaaGreatDoorWalkB
import Derived.Shelf.Strings.Split
namespace Go.Proofs
open Go.Shelf Go.RowKit Go.Lib

theorem splitB_le (sep : ByteArray) (sv : Nat) : ∀ (k : Nat) (s n : ByteArray), n ∈ Lib.splitB sep sv k s → n.size ≤ s.size := by
  intro k
  induction k with
  | zero => intro s n h; rw [Lib.splitB_zero, List.mem_singleton] at h; rw [h]; exact Nat.le_refl _
  | succ k ih =>
    intro s n h
    rw [Lib.splitB] at h
    split at h
    · rw [List.mem_singleton] at h; rw [h]; exact Nat.le_refl _
    · rcases List.mem_cons.1 h with e | e
      · rw [e, ByteArray.size_extract]; omega
      · have := ih _ _ e
        rw [ByteArray.size_extract] at this
        omega
theorem pieces_le : ∀ s n, n ∈ pieces s → n.size ≤ s.size := fun s n h => splitB_le _ _ _ s n h

set_option maxHeartbeats 1000000 in
set_option maxRecDepth 1000000 in
/-- strings.Split at a stroke, where genSplit is laid. -/
theorem split_ok {ρ : Ren} (L : Lays.n221 Tryz.prog ρ) (e221 : ρ.f 221 = 125) (e9 : ρ.t 9 = 9) : SplitOk := by
  intro s w hs
  have hi9 : (Tryz.prog.info? (ρ.t 9)).map (fun i => (i.zero, i.size, i.bytes)) = some (some (.string ByteArray.empty), 1, 16) := by rw [e9]; kernel_rfl
  have h1 : 1 ≤ (⟨#[47]⟩ : ByteArray).size := by decide
  have hle := Lib.countB_le ⟨#[47]⟩ h1 s.size s (Nat.le_refl _)
  have hlen := Lib.splitB_all ⟨#[47]⟩ h1 0 _ s rfl
  have c := Any.strings_genSplit_core L hi9 s ⟨#[47]⟩ 0 (-1) (Lib.countB s ⟨#[47]⟩ + 1) w (by omega) h1 (Nat.zero_le _)
    (fun x c hx => (Any.strings_Index_one { L with } x 47 _).mono fun e w' ⟨he, hw⟩ => ⟨by
      rw [he]
      show _ = Ending.returned (Value.int .i64 (Lib.index x.data.toList [47]))
      rw [Lib.index_one], hw⟩)
    ((Any.strings_Count_one { L with } s 47 w).mono fun e w' ⟨he, hw⟩ => ⟨by
      rw [he]
      show _ = Ending.returned (Value.int .i64 ((Lib.count s.data.toList [47] : Nat) : Int))
      rw [Lib.count_one]
      rfl, hw⟩) (by decide) (by decide) (by rw [if_pos (by decide)]; omega)
  rw [Nat.add_sub_cancel, hlen, e221, e9] at c
  have e2 : Lib.cellsOf (Lib.splitB ⟨#[47]⟩ 0 (Lib.countB s ⟨#[47]⟩) s) (Lib.countB s ⟨#[47]⟩ + 1) = ((pieces s).map Value.string).toArray := by rw [← hlen]; exact Lib.cellsOf_full _
  rw [e2] at c
  have hl2 : (pieces s).length = Lib.countB s ⟨#[47]⟩ + 1 := hlen
  rw [hl2]
  go_enter Tryz.func60, Tryz.ntmps60
  go_wp2_with (fail)
  refine c.mono ?_
  rintro e w' ⟨rfl, hw⟩
  subst hw
  go_wp2_with (fail)
  go_ret
  exact ⟨rfl, rfl⟩
end Go.Proofs

namespace Go.Proofs
open Go.Shelf Go.RowKit Go.Lib
set_option maxRecDepth 100000

def Tryz.splitS_ren : Go.Shelf.Ren := ⟨fun | 221 => 125 | 268 => 196 | 138 => 197 | 143 => 198 | 195 => 261 | 197 => 262 | 218 => 263 | 219 => 264 | 260 => 304 | 217 => 305 | 225 => 306 | 224 => 307 | 267 => 308 | 266 => 339 | 314 => 340 | n => n, fun | 9 => 9 | 3 => 3 | 31 => 71 | 4 => 4 | 0 => 0 | 105 => 442 | 21 => 21 | 5 => 5 | 46 => 232 | 119 => 518 | 139 => 521 | 138 => 520 | 146 => 522 | 51 => 377 | n => n, fun | 1 => 0 | 3 => 1 | 4 => 2 | n => n⟩
theorem Tryz.splitS : Go.Proofs.Lays.n221 Tryz.prog Tryz.splitS_ren :=
  { mixed := by kernel_rfl,
    f138 := Tryz.func197.trans (congrArg some (by kernel_rfl)),
    f143 := Tryz.func198.trans (congrArg some (by kernel_rfl)),
    f195 := Tryz.func261.trans (congrArg some (by kernel_rfl)),
    f197 := Tryz.func262.trans (congrArg some (by kernel_rfl)),
    f217 := Tryz.func305.trans (congrArg some (by kernel_rfl)),
    f218 := Tryz.func263.trans (congrArg some (by kernel_rfl)),
    f219 := Tryz.func264.trans (congrArg some (by kernel_rfl)),
    f221 := Tryz.func125.trans (congrArg some (by kernel_rfl)),
    f224 := Tryz.func307.trans (congrArg some (by kernel_rfl)),
    f225 := Tryz.func306.trans (congrArg some (by kernel_rfl)),
    f260 := Tryz.func304.trans (congrArg some (by kernel_rfl)),
    f266 := Tryz.func339.trans (congrArg some (by kernel_rfl)),
    f267 := Tryz.func308.trans (congrArg some (by kernel_rfl)),
    f268 := Tryz.func196.trans (congrArg some (by kernel_rfl)),
    f314 := Tryz.func340.trans (congrArg some (by kernel_rfl)),
    t0 := Tryz.underlying0,
    a0 := Tryz.isAgg0,
    z0 := Tryz.sizeOf0,
    v0 := Tryz.zeroValue0,
    t3 := Tryz.underlying3,
    a3 := Tryz.isAgg3,
    z3 := Tryz.sizeOf3,
    v3 := Tryz.zeroValue3,
    t4 := Tryz.underlying4,
    a4 := Tryz.isAgg4,
    z4 := Tryz.sizeOf4,
    v4 := Tryz.zeroValue4,
    t5 := Tryz.underlying5,
    a5 := Tryz.isAgg5,
    z5 := Tryz.sizeOf5,
    v5 := Tryz.zeroValue5,
    t9 := Tryz.underlying9,
    a9 := Tryz.isAgg9,
    z9 := Tryz.sizeOf9,
    v9 := Tryz.zeroValue9,
    t21 := Tryz.underlying21,
    a21 := Tryz.isAgg21,
    z21 := Tryz.sizeOf21,
    v21 := Tryz.zeroValue21,
    t31 := Tryz.underlying71,
    a31 := Tryz.isAgg71,
    z31 := Tryz.sizeOf71,
    v31 := Tryz.zeroValue71,
    t46 := Tryz.underlying232,
    a46 := Tryz.isAgg232,
    z46 := Tryz.sizeOf232,
    v46 := Tryz.zeroValue232,
    t51 := Tryz.underlying377,
    a51 := Tryz.isAgg377,
    z51 := Tryz.sizeOf377,
    v51 := Tryz.zeroValue377,
    t105 := Tryz.underlying442,
    a105 := Tryz.isAgg442,
    z105 := Tryz.sizeOf442,
    v105 := Tryz.zeroValue442,
    t119 := Tryz.underlying518,
    a119 := Tryz.isAgg518,
    z119 := Tryz.sizeOf518,
    t138 := Tryz.underlying520,
    a138 := Tryz.isAgg520,
    z138 := Tryz.sizeOf520,
    v138 := Tryz.zeroValue520,
    t139 := Tryz.underlying521,
    a139 := Tryz.isAgg521,
    z139 := Tryz.sizeOf521,
    v139 := Tryz.zeroValue521,
    t146 := Tryz.underlying522,
    a146 := Tryz.isAgg522,
    z146 := Tryz.sizeOf522,
    v146 := Tryz.zeroValue522,
    g1 := by kernel_rfl,
    g3 := by kernel_rfl,
    g4 := by kernel_rfl }


theorem split_holds : SplitOk := split_ok Tryz.splitS rfl rfl

/-- The reference's Path. -/
theorem refpath_holds (s : ByteArray) (w : World) (hsz : s.size ≤ 8796093022207) : Calls Tryz.prog 8 #[.string s] w fun e w' => e = .returned (.agg #[.int .i64 (pathD s).1, .int .i64 (pathD s).2]) ∧ Below w.heap.size w w' :=
  refpath_any split_holds pieces_le s w hsz
/-- name.Path: the same. -/
theorem namepath_holds (s : ByteArray) (w : World) (hsz : s.size ≤ 8796093022207) : Calls Tryz.prog 96 #[.string s] w fun e w' => e = .returned (.agg #[.int .i64 (pathD s).1, .int .i64 (pathD s).2]) ∧ Below w.heap.size w w' :=
  namepath_any split_holds pieces_le s w hsz
end Go.Proofs

namespace Go.Proofs
open Go.RowKit Go.Lib

/-- What is wrong with two refs' names. -/
def namesD (h s : ByteArray) : Int :=
  if (pathD h).1 ≠ 0 then (pathD h).1 else if (pathD s).1 ≠ 0 then (pathD s).1 else if h.toList = [] then 2 else if s.toList = [] then 2 else if s.toList = h.toList then 2 else 0

set_option maxRecDepth 1000000 in
set_option maxHeartbeats 2000000 in
theorem contains_one (h s : ByteArray) (b o c : Nat) (w : World) (hc : w.cell? ⟨b, o, none⟩ = some (.string h)) : Calls Tryz.prog 97 #[.slice (some ⟨b, o, none⟩) 1 c, .string s] w fun e w' => e = .returned (.bool (s.toList == h.toList)) ∧ w' = w := by
  cases he : (s.toList == h.toList) with
  | true =>
    go_enter Tryz.func97, Tryz.ntmps97
    go_wp2
    refine wp_loop_once ?_
    go_wp2
    go_ret
    exact ⟨rfl, rfl⟩
  | false =>
    go_enter Tryz.func97, Tryz.ntmps97
    go_wp2
    go_loopw [8] (fun i wr => ∃ k : Nat, i = .int .i64 (k : Int) ∧ k ≤ 1 ∧ wr = w) (fun i _ => 1 - (RowKit.intOf i).toNat)
    case atStart => exact ⟨0, rfl, by omega, rfl⟩
    case round =>
      obtain ⟨k, rfl, hk, rfl⟩ := hrel
      by_cases h0 : k = 0
      · subst h0
        go_wp2
        go_roundw
        case rel => exact ⟨1, rfl, by omega, by first | rfl | trivial⟩
        case measure => simp [RowKit.intOf]
      · have h1 : k = 1 := by omega
        subst h1
        go_wp2
        go_ret
        exact ⟨rfl, rfl⟩
theorem contains_zero (s : ByteArray) (b o c : Nat) (w : World) : Calls Tryz.prog 97 #[.slice (some ⟨b, o, none⟩) 0 c, .string s] w fun e w' => e = .returned (.bool false) ∧ w' = w := by
  go_enter Tryz.func97, Tryz.ntmps97
  go_wp2
  refine wp_loop_once ?_
  go_wp2
  go_ret
  exact ⟨rfl, rfl⟩

set_option maxRecDepth 1000000 in
set_option maxHeartbeats 4000000 in
theorem names_any (h s : ByteArray) (b o c : Nat) (w : World) (hh : h.size ≤ 250) (hs : s.size ≤ 250) (c0 : w.cell? ⟨b, o, none⟩ = some (.string h)) (c1 : w.cell? ⟨b, o + 1, none⟩ = some (.string s)) (hb : b < w.heap.size) (hcap : 2 ≤ c) :
    Calls Tryz.prog 43 #[.slice (some ⟨b, o, none⟩) 2 c] w fun e w' => e = .returned (.int .i64 (namesD h s)) ∧ Below w.heap.size w w' := by
  go_enter Tryz.func43, Tryz.ntmps43
  go_wp2_with (fail)
  go_loopw [10] (fun i wr => ∃ k : Nat, i = .int .i64 (k : Int) ∧ k ≤ 2 ∧ Below w.heap.size w wr ∧ Hid ((1 ≤ k → (pathD h).1 = 0) ∧ (2 ≤ k → (pathD s).1 = 0))) (fun i _ => 2 - (RowKit.intOf i).toNat)
  case atStart => exact ⟨0, rfl, by omega, Below.refl _ _, fun h => by omega, fun h => by omega⟩
  case round =>
    obtain ⟨k, rfl, hk, hbw, HP⟩ := hrel
    have d0 : wr.cell? ⟨b, o, none⟩ = some (.string h) := (hbw.cell (p := ⟨b, o, none⟩) hb).trans c0
    have d1 : wr.cell? ⟨b, o + 1, none⟩ = some (.string s) := (hbw.cell (p := ⟨b, o + 1, none⟩) hb).trans c1
    have hsz := hbw.size
    by_cases k0 : k = 0
    · subst k0
      go_wp2_with (fail)
      refine (namepath_holds h wr (by omega)).mono ?_
      rintro e W2 ⟨rfl, hB2⟩
      have hB3 := hbw.trans (hB2.mono hsz)
      have hs3 := hB3.size
      by_cases he : (pathD h).1 = 0
      · have he' : (((pathD h).1 : Nat) : Int) = 0 := by omega
        have HE := Hid.mk' he
        clear he
        go_wp2_with (fail)
        go_roundw
        case rel => exact ⟨1, rfl, by omega, hB3.alloc hs3 _, fun _ => HE.out, fun h => by omega⟩
        case measure => simp [RowKit.intOf]
      · have he' : ¬ (((pathD h).1 : Nat) : Int) = 0 := by omega
        have HE := Hid.mk' he
        clear he
        go_wp2_with (fail)
        go_ret
        refine ⟨?_, hB3.alloc hs3 _⟩
        unfold namesD
        rw [if_pos HE.out]
        rfl
    by_cases k1 : k = 1
    · subst k1
      go_wp2_with (fail)
      refine (namepath_holds s wr (by omega)).mono ?_
      rintro e W2 ⟨rfl, hB2⟩
      have hB3 := hbw.trans (hB2.mono hsz)
      have hs3 := hB3.size
      by_cases he : (pathD s).1 = 0
      · have he' : (((pathD s).1 : Nat) : Int) = 0 := by omega
        have HE := Hid.mk' he
        clear he
        go_wp2_with (fail)
        go_roundw
        case rel => exact ⟨2, rfl, by omega, hB3.alloc hs3 _, fun _ => HP.out.1 (by omega), fun _ => HE.out⟩
        case measure => simp [RowKit.intOf]
      · have he' : ¬ (((pathD s).1 : Nat) : Int) = 0 := by omega
        have HE := Hid.mk' he
        clear he
        go_wp2_with (fail)
        go_ret
        refine ⟨?_, hB3.alloc hs3 _⟩
        unfold namesD
        rw [if_neg (fun q => q (HP.out.1 (by omega))), if_pos HE.out]
        rfl
    have k2 : k = 2 := by omega
    subst k2
    have HP2 := Hid.mk' (And.intro (HP.out.1 (by omega)) (HP.out.2 (by omega)))
    clear HP k0 k1 d0 d1 hk
    have hcap1 : (1 : Int) ≤ (c : Int) := by omega
    have hcap2 : 1 ≤ c := by omega
    simp only [show ((2 : Nat) : Int) = 2 from rfl]
    go_wp2_with (fail)
    go_loopw [24] (fun i wr => ∃ k : Nat, i = .int .i64 (k : Int) ∧ k ≤ 2 ∧ Below w.heap.size w wr ∧ Hid ((1 ≤ k → h.toList ≠ []) ∧ (2 ≤ k → s.toList ≠ [] ∧ s.toList ≠ h.toList))) (fun i _ => 2 - (RowKit.intOf i).toNat)
    case atStart => exact ⟨0, rfl, by omega, hbw, fun h => by omega, fun h => by omega⟩
    case round =>
      obtain ⟨k, rfl, hk, hbw2, HQ⟩ := hrel
      have d0 : wr.cell? ⟨b, o, none⟩ = some (.string h) := (hbw2.cell (p := ⟨b, o, none⟩) hb).trans c0
      have d1 : wr.cell? ⟨b, o + 1, none⟩ = some (.string s) := (hbw2.cell (p := ⟨b, o + 1, none⟩) hb).trans c1
      by_cases k0 : k = 0
      · subst k0
        by_cases hz : h.toList = []
        · have hz' : h.toList.isEmpty = true := by rw [hz]; rfl
          have HZ := Hid.mk' hz
          clear hz
          go_wp2_with (fail)
          go_ret
          refine ⟨?_, hbw2⟩
          unfold namesD
          rw [if_neg (fun q => q HP2.out.1), if_neg (fun q => q HP2.out.2), if_pos HZ.out]
          rfl
        · have hz' : h.toList.isEmpty = false := by cases hl : h.toList with | nil => exact absurd hl hz | cons _ _ => rfl
          have HZ := Hid.mk' hz
          clear hz
          go_wp2_with (fail)
          refine (contains_zero h b o _ wr).mono ?_
          rintro e W2 ⟨rfl, rfl⟩
          go_wp2_with (fail)
          go_roundw
          case rel => exact ⟨1, rfl, by omega, hbw2, fun _ => HZ.out, fun h => by omega⟩
          case measure => simp [RowKit.intOf]
      by_cases k1 : k = 1
      · subst k1
        have HH := Hid.mk' (HQ.out.1 (by omega))
        clear HQ k0 hk
        by_cases hz : s.toList = []
        · have hz' : s.toList.isEmpty = true := by rw [hz]; rfl
          have HZ := Hid.mk' hz
          clear hz
          go_wp2_with (fail)
          go_ret
          refine ⟨?_, hbw2⟩
          unfold namesD
          rw [if_neg (fun q => q HP2.out.1), if_neg (fun q => q HP2.out.2), if_neg HH.out, if_pos HZ.out]
          rfl
        · have hz' : s.toList.isEmpty = false := by cases hl : s.toList with | nil => exact absurd hl hz | cons _ _ => rfl
          have HZ := Hid.mk' hz
          clear hz
          go_wp2_with (fail)
          refine (contains_one h s b o _ wr d0).mono ?_
          rintro e W2 ⟨rfl, rfl⟩
          by_cases heq : s.toList = h.toList
          · have hq : (s.toList == h.toList) = true := by simpa using heq
            have HE := Hid.mk' heq
            clear heq
            go_wp2_with (fail)
            go_ret
            refine ⟨?_, hbw2⟩
            unfold namesD
            rw [if_neg (fun q => q HP2.out.1), if_neg (fun q => q HP2.out.2), if_neg HH.out, if_neg HZ.out, if_pos HE.out]
            rfl
          · have hq : (s.toList == h.toList) = false := by simpa using heq
            have HE := Hid.mk' heq
            clear heq
            go_wp2_with (fail)
            go_roundw
            case rel => exact ⟨2, rfl, by omega, hbw2, fun _ => HH.out, fun _ => ⟨HZ.out, HE.out⟩⟩
            case measure => simp [RowKit.intOf]
      have k2 : k = 2 := by omega
      subst k2
      have HH := Hid.mk' (And.intro (HQ.out.1 (by omega)) (HQ.out.2 (by omega)))
      clear HQ k0 k1 hk
      go_wp2_with (fail)
      go_ret
      refine ⟨?_, hbw2⟩
      unfold namesD
      rw [if_neg (fun q => q HP2.out.1), if_neg (fun q => q HP2.out.2), if_neg HH.out.1, if_neg HH.out.2.1, if_neg HH.out.2.2]
      rfl
end Go.Proofs

/- A part of the proof of CarveSides: the runs of the document's example and of the law's body, and facts of the row. Conditions: none. -/
import Derived.Test.YtficpbnmmchpeaaGreatDoorProg
import Derived.WalkKit
import Derived.WalkSpells
import Derived.Deep.LoopGhost
import Derived.Lib.OthersKept
import Derived.Deep.MidRow
namespace Go.Proofs
open Go.RowKit Go.Lib

theorem dec_pos (s : ByteArray) (pos : Nat) : 1 ≤ (Utf8.decode s pos).2 := by
  unfold Utf8.decode
  simp only
  repeat' split
  all_goals simp
theorem dec_le (s : ByteArray) (pos : Nat) : (Utf8.decode s pos).1 ≤ 1114111 := by
  unfold Utf8.decode
  simp only
  have := fun k => (s.get! (pos + k)).toNat_lt
  have h0 := this 0; have h1 := this 1; have h2 := this 2; have h3 := this 3
  repeat' split
  all_goals (simp only [Utf8.runeError, Utf8.valid] at *)
  all_goals (try simp at *)
  all_goals omega
theorem dec_in (s : ByteArray) (pos : Nat) (h : pos < s.size) : pos + (Utf8.decode s pos).2 ≤ s.size := by
  unfold Utf8.decode
  simp only
  repeat' split
  all_goals (try simp only [Bool.and_eq_true, decide_eq_true_eq] at *)
  all_goals omega
theorem iterPos_of {w : World} {k : Nat} {s : ByteArray} {p : Nat} (h : w.heap[k]? = some (.stringIter s p)) : w.iterPos k = p := by simp [World.iterPos, h]

/-- Is a text right, from here on? a: the rune ahead, l: where it began. -/
def rightD (s : ByteArray) : Nat → Nat → Int → Nat → Bool
  | 0, _, _, _ => false
  | f + 1, pos, a, l =>
    if pos < s.size then
      if ((Utf8.decode s pos).1 = 0 ∨ (a = 65533 ∧ pos - l < 3)) then false else rightD s f (pos + (Utf8.decode s pos).2) (Utf8.decode s pos).1 pos
    else decide (a ≠ 65533 ∨ s.size - l = 3)

set_option maxRecDepth 1000000 in
set_option maxHeartbeats 2000000 in
theorem right_any (s : ByteArray) (w : World) (hsz : s.size ≤ 8796093022207) :
    Calls Tryz.prog 167 #[.string s] w fun e w' => e = .returned (.bool (rightD s (s.size + 1) 0 32 0)) ∧ Below w.heap.size w w' := by
  go_enter Tryz.func167, Tryz.ntmps167
  go_wp2
  go_loopw [3, 4] (fun a l wr => ∃ (pos fuel l0 : Nat) (a0 : Int), a = .int .i32 a0 ∧ l = .int .i64 (l0 : Int) ∧ wr.heap[w.heap.size]? = some (.stringIter s pos) ∧ Below w.heap.size w wr ∧ Hid (rightD s fuel pos a0 l0 = rightD s (s.size + 1) 0 32 0) ∧ s.size < pos + fuel ∧ l0 ≤ pos ∧ pos ≤ s.size) (fun _ _ wr => s.size - wr.iterPos w.heap.size)
  case atStart => exact ⟨0, s.size + 1, 0, 32, rfl, rfl, World.iter_heap w s 0, (Below.refl _ _).alloc (Nat.le_refl _) _, rfl, by omega, by omega, by omega⟩
  case round =>
    obtain ⟨pos, fuel, l0, a0, rfl, rfl, hit, hbw, HS, hb, hlen, hls⟩ := hrel
    have hpos0 := iterPos_of hit
    by_cases hp : pos < s.size
    · have hnx : ∀ ty, (Instr.next (.pointer (some ⟨w.heap.size, 0, none⟩)) true ty).run Tryz.prog wr = _ := fun ty => Lib.run_next_any_at wr w.heap.size s pos ty hit hp
      have hwd := dec_pos s pos
      have hin := dec_in s pos hp
      have hle := dec_le s pos
      obtain ⟨fuel, rfl⟩ : ∃ f', fuel = f' + 1 := ⟨fuel - 1, by omega⟩
      have hit2 := Lib.iterAt_heap wr w.heap.size s pos (pos + (Utf8.decode s pos).2) hit
      have hbw2 := Lib.below_iterAt hbw (k := w.heap.size) (Nat.le_refl _) s (pos + (Utf8.decode s pos).2)
      have hstep : rightD s (fuel + 1) pos a0 l0 = if ((Utf8.decode s pos).1 = 0 ∨ (a0 = 65533 ∧ pos - l0 < 3)) then false else rightD s fuel (pos + (Utf8.decode s pos).2) (Utf8.decode s pos).1 pos := by
        rw [rightD, if_pos hp]
      obtain ⟨W1, hW1⟩ : ∃ W1, W1 = wr.iterAt w.heap.size s (pos + (Utf8.decode s pos).2) := ⟨_, rfl⟩
      rw [← hW1] at hnx hit2 hbw2
      generalize (Utf8.decode s pos).2 = wd at hnx hit2 hbw2 hstep hwd hW1 hin
      generalize (Utf8.decode s pos).1 = c at hnx hstep hle
      have X : Aside (rightD s (s.size + 1) 0 32 0 = (if (c = 0 ∨ (a0 = 65533 ∧ pos - l0 < 3)) then false else rightD s fuel (pos + wd) c pos) ∧ W1.heap[w.heap.size]? = some (.stringIter s (pos + wd)) ∧ Below w.heap.size w W1) := ⟨HS.out.symm.trans hstep, hit2, hbw2⟩
      clear hstep HS hW1 hit hbw hit2 hbw2
      have hwr : IntKind.i64.wrap ((pos : Int) - (l0 : Int)) = (pos : Int) - (l0 : Int) := by rw [IntKind.wrap_i64]; omega
      go_wp2
      · rename_i h1
        go_ret
        obtain ⟨e, x1, x2⟩ := X.out
        rw [if_pos (.inl (by omega))] at e
        exact ⟨by rw [e]; rfl, x2⟩
      · rename_i h1 h2 h3
        go_ret
        obtain ⟨e, x1, x2⟩ := X.out
        rw [if_pos (.inr ⟨h2, by rcases h3 with h | h; (simp at h; omega); omega⟩)] at e
        exact ⟨by rw [e]; rfl, x2⟩
      · rename_i h1 h2 h3
        go_roundw
        case rel =>
          obtain ⟨e, x1, x2⟩ := X.out
          exact ⟨pos + wd, fuel, pos, c, rfl, rfl, x1, x2, (show _ = _ by rw [e, if_neg (by omega)]), by omega, by omega, by omega⟩
        case measure => rw [iterPos_of X.out.2.1, hpos0]; omega
      · rename_i h1 h2
        go_roundw
        case rel =>
          obtain ⟨e, x1, x2⟩ := X.out
          exact ⟨pos + wd, fuel, pos, c, rfl, rfl, x1, x2, (show _ = _ by rw [e, if_neg (by omega)]), by omega, by omega, by omega⟩
        case measure => rw [iterPos_of X.out.2.1, hpos0]; omega
    · have hnx : ∀ ty, (Instr.next (.pointer (some ⟨w.heap.size, 0, none⟩)) true ty).run Tryz.prog wr = .ok (.tuple #[.bool false]) wr := fun ty => by
        simp [Instr.next, getObj, Sem.run, hit, hp]
      obtain ⟨fuel, rfl⟩ : ∃ f', fuel = f' + 1 := ⟨fuel - 1, by omega⟩
      have hwr : IntKind.i64.wrap ((s.size : Int) - (l0 : Int)) = (s.size : Int) - (l0 : Int) := by rw [IntKind.wrap_i64]; omega
      have X : Aside (rightD s (s.size + 1) 0 32 0 = decide (a0 ≠ 65533 ∨ s.size - l0 = 3) ∧ Below w.heap.size w wr) := ⟨by rw [← HS.out, rightD, if_neg hp], hbw⟩
      clear HS hit hbw
      go_wp2
      · rename_i h1
        go_ret
        obtain ⟨e, x2⟩ := X.out
        refine ⟨?_, x2⟩
        rw [e]
        show Ending.returned (Value.bool ((s.size : Int) - (l0 : Int) == 3)) = _
        rw [show ((s.size : Int) - (l0 : Int) == 3) = decide (a0 ≠ 65533 ∨ s.size - l0 = 3) from by
          rw [Bool.eq_iff_iff]
          simp only [beq_iff_eq, decide_eq_true_eq]
          omega]
      · rename_i h1
        go_ret
        obtain ⟨e, x2⟩ := X.out
        refine ⟨?_, x2⟩
        rw [e, decide_eq_true (.inl h1)]
        rfl
end Go.Proofs

namespace Go.Proofs
open Go.RowKit Go.Lib
def preAt (s : ByteArray) (pos : Nat) : Prop := 3 ≤ s.size - pos ∧ ((s.extract pos s.size).extract 0 3).toList = [239, 191, 189]
theorem ext3 (s : ByteArray) (pos : Nat) (h : 3 ≤ s.size - pos) : ((s.extract pos s.size).extract 0 3).toList = [s.get! pos, s.get! (pos + 1), s.get! (pos + 2)] := by
  have hg : ∀ k, k < s.size → s.data.toList[k]? = some (s.get! k) := fun k hk => by
    have hk' : k < s.data.size := hk
    rw [Array.getElem?_toList, Array.getElem?_eq_getElem hk']
    show some _ = some (s.data[k]!)
    rw [getElem!_pos s.data k hk']
  rw [ByteArray.toList_eq]
  have e : ((s.extract pos s.size).extract 0 3).data.toList = ((s.data.toList.drop pos).take 3) := by
    rw [ByteArray.data_extract, ByteArray.data_extract, Array.toList_extract, Array.toList_extract, List.extract_eq_take_drop, List.extract_eq_take_drop, List.drop_zero, List.take_take]
    congr 1
    omega
  rw [e]
  apply List.ext_getElem?
  intro j
  match j with
  | 0 => simp [List.getElem?_drop]; rw [← Array.getElem?_toList]; exact hg _ (by omega)
  | 1 => simp [List.getElem?_drop]; rw [← Array.getElem?_toList]; exact hg _ (by omega)
  | 2 => simp [List.getElem?_drop]; rw [← Array.getElem?_toList]; exact hg _ (by omega)
  | j + 3 => simp [List.getElem?_take]; omega

theorem pre_iff (s : ByteArray) (pos : Nat) (hp : pos < s.size) : (Utf8.decode s pos).1 = 65533 → (preAt s pos ↔ (Utf8.decode s pos).2 = 3) := by
  intro hc
  unfold preAt
  constructor
  · rintro ⟨h3, h⟩
    rw [ext3 s pos h3] at h
    simp only [List.cons.injEq, and_true] at h
    obtain ⟨e0, e1, e2⟩ := h
    unfold Utf8.decode
    simp only [Nat.add_zero, e0, e1, e2]
    have g1 : decide (pos + 1 < s.size) = true := by simp; omega
    have g2 : decide (pos + 2 < s.size) = true := by simp; omega
    simp only [g1, g2]
    rfl
  · intro hw
    unfold Utf8.decode at hc hw
    simp only [Nat.add_zero] at hc hw
    have l0 := (s.get! pos).toNat_lt; have l1 := (s.get! (pos + 1)).toNat_lt; have l2 := (s.get! (pos + 2)).toNat_lt
    split at hw
    · simp at hw
    · rename_i hb
      rw [if_neg hb] at hc
      split at hw
      · split at hw <;> simp at hw
      · rename_i hb2
        rw [if_neg hb2] at hc
        split at hw
        · rename_i hb3
          rw [if_pos hb3] at hc
          split at hw
          · rename_i hb4
            rw [if_pos hb4] at hc
            simp only [Bool.and_eq_true, decide_eq_true_eq, beq_iff_eq] at hb3
            simp only at hc
            have h3 : 3 ≤ s.size - pos := by omega
            refine ⟨h3, ?_⟩
            rw [ext3 s pos h3]
            have t0 : (s.get! pos).toNat = 239 := by omega
            have t1 : (s.get! (pos + 1)).toNat = 191 := by omega
            have t2 : (s.get! (pos + 2)).toNat = 189 := by omega
            have u0 : s.get! pos = 239 := UInt8.toNat_inj.1 t0
            have u1 : s.get! (pos + 1) = 191 := UInt8.toNat_inj.1 t1
            have u2 : s.get! (pos + 2) = 189 := UInt8.toNat_inj.1 t2
            rw [u0, u1, u2]
          · simp at hw
        · split at hw
          · split at hw <;> simp at hw
          · simp at hw
end Go.Proofs

namespace Go.Proofs
open Go.RowKit Go.Lib

def badAt (s : ByteArray) (pos : Nat) : Bool :=
  decide ((Utf8.decode s pos).1 < 32) || decide ((Utf8.decode s pos).1 = 127) || decide ((Utf8.decode s pos).1 = 47) || (decide ((Utf8.decode s pos).1 = 65533) && decide ((Utf8.decode s pos).2 ≠ 3))
/-- Where the first rune begins that may not stand in a name. -/
def firstBad (s : ByteArray) : Nat → Nat → Option Nat
  | 0, _ => none
  | f + 1, pos => if pos < s.size then (if badAt s pos = true then some pos else firstBad s f (pos + (Utf8.decode s pos).2)) else none
/-- What is wrong with a name: the error, and where. -/
def spotD (s : ByteArray) : Nat × Nat :=
  if s.toList = [] ∨ s.toList = [46] ∨ s.toList = [46, 46] then (140, 0) else if 32 < s.size then (3, 32) else match firstBad s (s.size + 1) 0 with | some i => (140, i) | none => (0, 0)

theorem Hid.mk' {p : Prop} (h : p) : Hid p := h
theorem World.alloc_last (w : World) (o : Obj) : (w.alloc o).heap[w.heap.size]? = some o := by
  show (w.heap.push o)[w.heap.size]? = _
  simp
theorem spot_results {fn : Func} (hf : fn.results = #[.cell 2 96]) {tmps : Array Value} {w : World} {b : Nat} {fr : Nat × Nat} (x y : Value) (ht : tmps.getD 2 undef = .pointer (some ⟨b, 0, none⟩)) (hg : w.heap[b]? = some (.cells #[x, y] 96 fr)) :
    (results fn tmps).run Tryz.prog w = .ok (.agg #[x, y]) w := by
  have hl := run_loadVar_row (P := Tryz.prog) w b 96 96 #[x, y] fr _ hg Tryz.underlying96 rfl (by kernel_rfl)
  have ht2 : tmps[2]?.getD undef = .pointer (some ⟨b, 0, none⟩) := by simpa using ht
  simp only [results, hf]
  simp [ht2, asAddr, hl]

theorem bad_iff (s : ByteArray) (pos : Nat) (hp : pos < s.size) : badAt s pos = true ↔ ((Utf8.decode s pos).1 < 32 ∨ (Utf8.decode s pos).1 = 127 ∨ (Utf8.decode s pos).1 = 47 ∨ ((Utf8.decode s pos).1 = 65533 ∧ ¬ preAt s pos)) := by
  unfold badAt
  simp only [Bool.or_eq_true, Bool.and_eq_true, decide_eq_true_eq, or_assoc]
  constructor
  · rintro (h | h | h | ⟨h, h2⟩)
    · exact .inl h
    · exact .inr (.inl h)
    · exact .inr (.inr (.inl h))
    · exact .inr (.inr (.inr ⟨h, fun q => h2 ((pre_iff s pos hp h).1 q)⟩))
  · rintro (h | h | h | ⟨h, h2⟩)
    · exact .inl h
    · exact .inr (.inl h)
    · exact .inr (.inr (.inl h))
    · exact .inr (.inr (.inr ⟨h, fun q => h2 ((pre_iff s pos hp h).2 q)⟩))

theorem spot_results2 {fn : Func} (hf : fn.results = #[.cell 2 96]) {tmps : Array Value} {w : World} {b : Nat} (x y : Value) (ht : tmps.getD 2 undef = .pointer (some ⟨b, 0, none⟩)) (hx : w.cell? ⟨b, 0, none⟩ = some x) (hy : w.cell? ⟨b, 1, none⟩ = some y) :
    (results fn tmps).run Tryz.prog w = .ok (.agg #[x, y]) w := by
  have hl := run_loadVar_mid (P := Tryz.prog) w b 0 96 [x, y] _ (fun j v hj => by
    match j, hj with
    | 0, hj => simp at hj; subst hj; simpa using hx
    | 1, hj => simp at hj; subst hj; simpa using hy
    | j + 2, hj => simp at hj) Tryz.underlying96 rfl (by kernel_rfl)
  have ht2 : tmps[2]?.getD undef = .pointer (some ⟨b, 0, none⟩) := by simpa using ht
  simp only [results, hf]
  simp [ht2, asAddr, hl]

theorem two_cells {w : World} {b : Nat} {x0 y0 x y : Value} (h0 : w.cell? ⟨b, 0, none⟩ = some x0) (h1 : w.cell? ⟨b, 1, none⟩ = some y0) :
    ((w.setCell ⟨b, 0, none⟩ x).setCell ⟨b, 1, none⟩ y).cell? ⟨b, 0, none⟩ = some x ∧ ((w.setCell ⟨b, 0, none⟩ x).setCell ⟨b, 1, none⟩ y).cell? ⟨b, 1, none⟩ = some y := by
  have e0 : (w.setCell ⟨b, 0, none⟩ x).cell? ⟨b, 0, none⟩ = some x := World.cell?_setCell_same w _ x h0
  have e1 : (w.setCell ⟨b, 0, none⟩ x).cell? ⟨b, 1, none⟩ = some y0 := (World.cell?_setCell_other w _ _ x (by simp)).trans h1
  exact ⟨(World.cell?_setCell_other _ _ _ y (by simp)).trans e0, World.cell?_setCell_same _ _ y e1⟩

end Go.Proofs

namespace Go.Proofs
open Go.RowKit Go.Lib

/-- The walk's own account of a name: where the first bad rune begins; -1: there is none. -/
def chkD (s : ByteArray) : Nat → Nat → Nat → Int → Int → Int
  | 0, _, _, _, wr => wr
  | f + 1, pos, l, a, wr =>
    if pos < s.size then
      if 0 < pos ∧ wr < 0 ∧ a = 65533 ∧ (pos : Int) - l < 3 then (l : Int)
      else if 0 ≤ wr then wr
      else chkD s f (pos + (Utf8.decode s pos).2) pos (Utf8.decode s pos).1 (if (Utf8.decode s pos).1 < 32 ∨ (Utf8.decode s pos).1 = 127 ∨ (Utf8.decode s pos).1 = 47 then (pos : Int) else wr)
    else if wr < 0 ∧ a = 65533 ∧ (s.size : Int) - l < 3 then (l : Int) else wr

set_option maxRecDepth 1000000 in
set_option maxHeartbeats 2000000 in
/-- The closure: a rune that is broken is noted. -/
theorem look_any (b3 b4 b5 : Nat) (e l : Nat) (a wr : Int) (w : World) (hel : l ≤ e) (he : e ≤ 8796093022207) (h3 : w.cell? ⟨b3, 0, none⟩ = some (.int .i64 l)) (h4 : w.cell? ⟨b4, 0, none⟩ = some (.int .i64 wr)) (h5 : w.cell? ⟨b5, 0, none⟩ = some (.int .i32 a)) (hf : w.frozen? ⟨b4, 0, none⟩ = false) :
    Calls Tryz.prog 105 #[.int .i64 e, .pointer (some ⟨b4, 0, none⟩), .pointer (some ⟨b5, 0, none⟩), .pointer (some ⟨b3, 0, none⟩)] w fun r w' => r = .returned (.tuple #[]) ∧ w' = if wr < 0 ∧ a = 65533 ∧ (e : Int) - l < 3 then w.setCell ⟨b4, 0, none⟩ (.int .i64 l) else w := by
  have hw : IntKind.i64.wrap ((e : Int) - (l : Int)) = (e : Int) - (l : Int) := by rw [IntKind.wrap_i64]; omega
  go_enter Tryz.func105, Tryz.ntmps105
  go_wp2
  all_goals exact bodyPost_end (results_none rfl _ _ _) rfl ⟨rfl, rfl⟩

theorem dec_fffd (s : ByteArray) (pos : Nat) (h : (Utf8.decode s pos).1 = 65533) : (Utf8.decode s pos).2 = 1 ∨ (Utf8.decode s pos).2 = 3 := by
  unfold Utf8.decode at h ⊢
  simp only at h ⊢
  have := fun k => (s.get! (pos + k)).toNat_lt
  have h0 := this 0; have h1 := this 1; have h2 := this 2; have h3 := this 3
  split at h
  · rename_i hb; rw [if_pos hb]; exact .inl rfl
  · rename_i hb
    rw [if_neg hb]
    split at h
    · rename_i hb2
      rw [if_pos hb2]
      split at h
      · simp only at h; omega
      · rename_i hb3; rw [if_neg hb3]; exact .inl rfl
    · rename_i hb2
      rw [if_neg hb2]
      split at h
      · rename_i hb3
        rw [if_pos hb3]
        split at h
        · rename_i hb4; rw [if_pos hb4]; exact .inr rfl
        · rename_i hb4; rw [if_neg hb4]; exact .inl rfl
      · rename_i hb3
        rw [if_neg hb3]
        split at h
        · rename_i hb4
          rw [if_pos hb4]
          split at h
          · rename_i hb5
            simp only [Bool.and_eq_true, decide_eq_true_eq, ge_iff_le] at hb5
            simp only at h
            omega
          · rename_i hb5; rw [if_neg hb5]; exact .inl rfl
        · rename_i hb4; rw [if_neg hb4]; exact .inl rfl

theorem bad_cases (s : ByteArray) (pos : Nat) : badAt s pos = true ↔ ((Utf8.decode s pos).1 < 32 ∨ (Utf8.decode s pos).1 = 127 ∨ (Utf8.decode s pos).1 = 47) ∨ ((Utf8.decode s pos).1 = 65533 ∧ (Utf8.decode s pos).2 < 3) := by
  have h3 := dec_fffd s pos
  unfold badAt
  simp only [Bool.or_eq_true, Bool.and_eq_true, decide_eq_true_eq]
  constructor
  · rintro (h | ⟨h, h2⟩)
    · exact .inl (by omega)
    · exact .inr ⟨h, by have := h3 h; omega⟩
  · rintro (h | ⟨h, h2⟩)
    · exact .inl (by omega)
    · exact .inr ⟨h, by omega⟩

def atOf : Option Nat → Int
  | some i => i
  | none => -1
/-- The walk's account and the document's: one. -/
theorem chk_first (s : ByteArray) : ∀ (f pos l : Nat) (a wr : Int), s.size < pos + f → pos ≤ s.size → 0 < pos → l < pos → (wr = -1 ∨ wr = l) →
    chkD s f pos l a wr = if wr = l then wr else if a = 65533 ∧ (pos : Int) - l < 3 then (l : Int) else atOf (firstBad s f pos) := by
  intro f
  induction f with
  | zero => intro pos l a wr h1 h2 h3 h4 h5; omega
  | succ f ih =>
    intro pos l a wr h1 h2 h3 h4 h5
    rw [chkD, firstBad]
    by_cases hp : pos < s.size
    · rw [if_pos hp, if_pos hp]
      rcases h5 with rfl | rfl
      · by_cases hc : a = 65533 ∧ (pos : Int) - l < 3
        · rw [if_pos ⟨h3, by omega, hc.1, hc.2⟩, if_neg (by omega), if_pos hc]
        · have hw := dec_pos s pos
          have hin := dec_in s pos hp
          rw [if_neg (fun h => hc ⟨h.2.2.1, h.2.2.2⟩), if_neg (show ¬ ((0 : Int) ≤ -1) by omega), if_neg (show ¬ ((-1 : Int) = (l : Int)) by omega), if_neg hc]
          have hb := bad_cases s pos
          generalize (Utf8.decode s pos).2 = wd at *
          generalize (Utf8.decode s pos).1 = c at *
          by_cases h3c : c < 32 ∨ c = 127 ∨ c = 47
          · rw [if_pos h3c, ih (pos + wd) pos c pos (by omega) hin (by omega) (by omega) (.inr rfl), if_pos rfl, if_pos (hb.2 (.inl h3c))]
            rfl
          · rw [if_neg h3c, ih (pos + wd) pos c (-1) (by omega) hin (by omega) (by omega) (.inl rfl), if_neg (by omega)]
            by_cases hcf : c = 65533 ∧ wd < 3
            · rw [if_pos (by omega), if_pos (hb.2 (.inr hcf))]
              rfl
            · rw [if_neg (by omega), if_neg (fun h => (hb.1 h).elim h3c hcf)]
      · rw [if_neg (by omega), if_pos (by omega), if_pos rfl]
    · rw [if_neg hp, if_neg hp]
      have : pos = s.size := by omega
      subst this
      rcases h5 with rfl | rfl
      · by_cases hc : a = 65533 ∧ (s.size : Int) - l < 3
        · rw [if_pos ⟨by omega, hc.1, hc.2⟩, if_neg (by omega), if_pos hc]
        · rw [if_neg (fun h => hc ⟨h.2.1, h.2.2⟩), if_neg (by omega), if_neg hc]
          rfl
      · rw [if_neg (by omega), if_pos rfl]

theorem chk_start (s : ByteArray) (h0 : 0 < s.size) : chkD s (s.size + 1) 0 0 32 (-1) = atOf (firstBad s (s.size + 1) 0) := by
  rw [chkD, firstBad, if_pos h0, if_pos h0, if_neg (by omega), if_neg (show ¬ ((0 : Int) ≤ -1) by omega)]
  have hw := dec_pos s 0
  have hin := dec_in s 0 h0
  have hb := bad_cases s 0
  generalize (Utf8.decode s 0).2 = wd at *
  generalize (Utf8.decode s 0).1 = c at *
  by_cases h3c : c < 32 ∨ c = 127 ∨ c = 47
  · rw [if_pos h3c, chk_first s s.size (0 + wd) 0 c ((0 : Nat) : Int) (by omega) hin (by omega) (by omega) (.inr rfl), if_pos (by rfl), if_pos (hb.2 (.inl h3c))]
    rfl
  · rw [if_neg h3c, chk_first s s.size (0 + wd) 0 c (-1) (by omega) hin (by omega) (by omega) (.inl rfl), if_neg (by omega)]
    by_cases hcf : c = 65533 ∧ wd < 3
    · rw [if_pos (by omega), if_pos (hb.2 (.inr hcf))]
      rfl
    · rw [if_neg (by omega), if_neg (fun h => (hb.1 h).elim h3c hcf)]

/-- What stands while name.Check goes over the runes: B: the result's block; behind it last, wrong, ahead, the iterator. -/
structure CI (w : World) (B : Nat) (s : ByteArray) (pos l : Nat) (wr a : Int) : Prop where
  it : w.heap[B + 4]? = some (.stringIter s pos)
  r0 : w.cell? ⟨B, 0, none⟩ = some (.int .i64 0)
  r1 : w.cell? ⟨B, 1, none⟩ = some (.int .i64 0)
  cl : w.cell? ⟨B + 1, 0, none⟩ = some (.int .i64 l)
  cw : w.cell? ⟨B + 2, 0, none⟩ = some (.int .i64 wr)
  ca : w.cell? ⟨B + 3, 0, none⟩ = some (.int .i32 a)
  f0 : w.frozen? ⟨B, 0, none⟩ = false
  f1 : w.frozen? ⟨B, 1, none⟩ = false
  fl : w.frozen? ⟨B + 1, 0, none⟩ = false
  fw : w.frozen? ⟨B + 2, 0, none⟩ = false
  fa : w.frozen? ⟨B + 3, 0, none⟩ = false

theorem CI.iter {w : World} {B : Nat} {s : ByteArray} {pos l : Nat} {wr a : Int} (c : CI w B s pos l wr a) (p' : Nat) : CI (w.iterAt (B + 4) s p') B s p' l wr a := by
  have hc : ∀ k j, k ≠ B + 4 → (w.iterAt (B + 4) s p').cell? ⟨k, j, none⟩ = w.cell? ⟨k, j, none⟩ := fun k j hk => World.cell?_of_block (w := w) (Lib.iterAt_other w (B + 4) k s p' hk)
  have hf : ∀ k j, k ≠ B + 4 → (w.iterAt (B + 4) s p').frozen? ⟨k, j, none⟩ = w.frozen? ⟨k, j, none⟩ := fun k j hk => World.frozen?_of_block (w := w) (Lib.iterAt_other w (B + 4) k s p' hk)
  exact ⟨Lib.iterAt_heap w (B + 4) s pos p' c.it, (hc _ _ (by omega)).trans c.r0, (hc _ _ (by omega)).trans c.r1, (hc _ _ (by omega)).trans c.cl, (hc _ _ (by omega)).trans c.cw, (hc _ _ (by omega)).trans c.ca,
    (hf _ _ (by omega)).trans c.f0, (hf _ _ (by omega)).trans c.f1, (hf _ _ (by omega)).trans c.fl, (hf _ _ (by omega)).trans c.fw, (hf _ _ (by omega)).trans c.fa⟩

theorem CI.setL {w : World} {B : Nat} {s : ByteArray} {pos l : Nat} {wr a : Int} (c : CI w B s pos l wr a) (x : Nat) : CI (w.setCell ⟨B + 1, 0, none⟩ (.int .i64 x)) B s pos x wr a :=
  ⟨(Below.heap_setCell _ _ _ _ (by simp)).trans c.it, (World.cell?_setCell_other _ _ _ _ (by simp)).trans c.r0, (World.cell?_setCell_other _ _ _ _ (by simp)).trans c.r1, World.cell?_setCell_same _ _ _ c.cl, (World.cell?_setCell_other _ _ _ _ (by simp)).trans c.cw, (World.cell?_setCell_other _ _ _ _ (by simp)).trans c.ca,
    (World.frozen?_setCell _ _ _ _).trans c.f0, (World.frozen?_setCell _ _ _ _).trans c.f1, (World.frozen?_setCell _ _ _ _).trans c.fl, (World.frozen?_setCell _ _ _ _).trans c.fw, (World.frozen?_setCell _ _ _ _).trans c.fa⟩
theorem CI.setW {w : World} {B : Nat} {s : ByteArray} {pos l : Nat} {wr a : Int} (c : CI w B s pos l wr a) (x : Int) : CI (w.setCell ⟨B + 2, 0, none⟩ (.int .i64 x)) B s pos l x a :=
  ⟨(Below.heap_setCell _ _ _ _ (by simp)).trans c.it, (World.cell?_setCell_other _ _ _ _ (by simp)).trans c.r0, (World.cell?_setCell_other _ _ _ _ (by simp)).trans c.r1, (World.cell?_setCell_other _ _ _ _ (by simp)).trans c.cl, World.cell?_setCell_same _ _ _ c.cw, (World.cell?_setCell_other _ _ _ _ (by simp)).trans c.ca,
    (World.frozen?_setCell _ _ _ _).trans c.f0, (World.frozen?_setCell _ _ _ _).trans c.f1, (World.frozen?_setCell _ _ _ _).trans c.fl, (World.frozen?_setCell _ _ _ _).trans c.fw, (World.frozen?_setCell _ _ _ _).trans c.fa⟩
theorem CI.setA {w : World} {B : Nat} {s : ByteArray} {pos l : Nat} {wr a : Int} (c : CI w B s pos l wr a) (x : Int) : CI (w.setCell ⟨B + 3, 0, none⟩ (.int .i32 x)) B s pos l wr x :=
  ⟨(Below.heap_setCell _ _ _ _ (by simp)).trans c.it, (World.cell?_setCell_other _ _ _ _ (by simp)).trans c.r0, (World.cell?_setCell_other _ _ _ _ (by simp)).trans c.r1, (World.cell?_setCell_other _ _ _ _ (by simp)).trans c.cl, (World.cell?_setCell_other _ _ _ _ (by simp)).trans c.cw, World.cell?_setCell_same _ _ _ c.ca,
    (World.frozen?_setCell _ _ _ _).trans c.f0, (World.frozen?_setCell _ _ _ _).trans c.f1, (World.frozen?_setCell _ _ _ _).trans c.fl, (World.frozen?_setCell _ _ _ _).trans c.fw, (World.frozen?_setCell _ _ _ _).trans c.fa⟩

theorem ci_start (w : World) (s : ByteArray) : CI (((((w.alloc (Obj.cells #[Value.int IntKind.i64 0, Value.int IntKind.i64 0] 96)).alloc (Obj.cells #[Value.int IntKind.i64 0] 3)).alloc (Obj.cells #[Value.int IntKind.i64 (-1)] 3)).alloc (Obj.cells #[Value.int IntKind.i32 32] 21)).iter s 0) w.heap.size s 0 0 (-1) 32 := by
  have sz : ∀ (v : World) (o : Obj), (v.alloc o).heap.size = v.heap.size + 1 := fun v o => Array.size_push _
  have old : ∀ (v : World) (o x : Obj) (k : Nat), v.heap[k]? = some x → (v.alloc o).heap[k]? = some x := fun v o x k h => by
    have hk : k < v.heap.size := (Array.getElem?_eq_some_iff.1 h).1
    exact (Below.heap_alloc _ _ _ hk).trans h
  unfold World.iter
  generalize h1 : w.alloc (Obj.cells #[Value.int IntKind.i64 0, Value.int IntKind.i64 0] 96) = w1
  generalize h2 : w1.alloc (Obj.cells #[Value.int IntKind.i64 0] 3) = w2
  generalize h3 : w2.alloc (Obj.cells #[Value.int IntKind.i64 (-1)] 3) = w3
  generalize h4 : w3.alloc (Obj.cells #[Value.int IntKind.i32 32] 21) = w4
  generalize h5 : w4.alloc (Obj.stringIter s 0) = w5
  have s1 : w1.heap.size = w.heap.size + 1 := by rw [← h1]; exact sz _ _
  have s2 : w2.heap.size = w.heap.size + 2 := by rw [← h2, sz, s1]
  have s3 : w3.heap.size = w.heap.size + 3 := by rw [← h3, sz, s2]
  have s4 : w4.heap.size = w.heap.size + 4 := by rw [← h4, sz, s3]
  have b0 : w5.heap[w.heap.size]? = some (Obj.cells #[Value.int IntKind.i64 0, Value.int IntKind.i64 0] 96) := by
    rw [← h5]; apply old; rw [← h4]; apply old; rw [← h3]; apply old; rw [← h2]; apply old; rw [← h1]; exact World.alloc_last _ _
  have b1 : w5.heap[w.heap.size + 1]? = some (Obj.cells #[Value.int IntKind.i64 0] 3) := by
    rw [← h5]; apply old; rw [← h4]; apply old; rw [← h3]; apply old; rw [← h2, ← s1]; exact World.alloc_last _ _
  have b2 : w5.heap[w.heap.size + 2]? = some (Obj.cells #[Value.int IntKind.i64 (-1)] 3) := by
    rw [← h5]; apply old; rw [← h4]; apply old; rw [← h3, ← s2]; exact World.alloc_last _ _
  have b3 : w5.heap[w.heap.size + 3]? = some (Obj.cells #[Value.int IntKind.i32 32] 21) := by
    rw [← h5]; apply old; rw [← h4, ← s3]; exact World.alloc_last _ _
  have b4 : w5.heap[w.heap.size + 4]? = some (Obj.stringIter s 0) := by rw [← h5, ← s4]; exact World.alloc_last _ _
  exact ⟨b4, by simp [World.cell?, b0], by simp [World.cell?, b0], by simp [World.cell?, b1], by simp [World.cell?, b2], by simp [World.cell?, b3], by simp [World.frozen?, b0], by simp [World.frozen?, b0], by simp [World.frozen?, b1], by simp [World.frozen?, b2], by simp [World.frozen?, b3]⟩

def chkV (x : Int) : Int × Int := if 0 ≤ x then (140, x) else (0, 0)

set_option maxRecDepth 1000000 in
set_option maxHeartbeats 4000000 in
theorem check_loop (s : ByteArray) (w : World) (hsz : s.size ≤ 32) (he1 : s.toList.isEmpty = false) (he2 : (s.toList == [46]) = false) (he3 : (s.toList == [46, 46]) = false) :
    Calls Tryz.prog 58 #[.string s] w fun e w' => e = .returned (.agg #[.int .i64 (chkV (chkD s (s.size + 1) 0 0 32 (-1))).1, .int .i64 (chkV (chkD s (s.size + 1) 0 0 32 (-1))).2]) ∧ Below w.heap.size w w' := by
  have hmf : ∀ (fn : Fn) (first cap : Array Value) (w : World), (Instr.makeFunc fn first cap).run Tryz.prog w = .ok (.func fn first cap) w := fun _ _ _ _ => rfl
  have h32 : ¬ ((32 : Int) < (s.size : Int)) := by omega
  go_enter Tryz.func58, Tryz.ntmps58
  go_wp2
  go_loopw [7] (fun _ wr => ∃ (pos fuel l : Nat) (wg a : Int), CI wr w.heap.size s pos l wg a ∧ Below w.heap.size w wr ∧ Hid (chkD s fuel pos l a wg = chkD s (s.size + 1) 0 0 32 (-1)) ∧ s.size < pos + fuel ∧ pos ≤ s.size ∧ l ≤ pos) (fun _ wr => s.size - wr.iterPos (w.heap.size + 4))
  case atStart =>
    refine ⟨0, s.size + 1, 0, -1, 32, ?_, ?_, rfl, by omega, by omega, by omega⟩
    · exact ci_start w s
    · exact ((((((Below.refl _ _).alloc (Nat.le_refl _) _).alloc (by simp) _).alloc (by simp; omega) _).alloc (by simp; omega) _).alloc (by simp; omega) _)
  case round =>
    obtain ⟨pos, fuel, l, wg, a, C, hbw, HF, hb, hps, hls⟩ := hrel
    have hpos0 := iterPos_of C.it
    obtain ⟨fuel, rfl⟩ : ∃ f', fuel = f' + 1 := ⟨fuel - 1, by omega⟩
    -- the result is laid down, and handed back
    have ret_at : ∀ (W : World) (l' : Nat) (x a' : Int) (p' : Nat), CI W w.heap.size s p' l' x a' → Below w.heap.size w W → 0 ≤ x → x = chkD s (s.size + 1) 0 0 32 (-1) → ∀ tmps : Array Value, tmps.getD 2 undef = .pointer (some ⟨w.heap.size, 0, none⟩) → bodyPost Tryz.prog Tryz.f58 (fun e w' => e = .returned (.agg #[.int .i64 (chkV (chkD s (s.size + 1) 0 0 32 (-1))).1, .int .i64 (chkV (chkD s (s.size + 1) 0 0 32 (-1))).2]) ∧ Below w.heap.size w w') .ret ⟨tmps, []⟩ ((W.setCell ⟨w.heap.size, 0, none⟩ (.int .i64 140)).setCell ⟨w.heap.size, 1, none⟩ (.int .i64 x)) := by
      intro W l' x a' p' c hW hx e tmps ht
      have h2 := two_cells (x := .int .i64 140) (y := .int .i64 x) c.r0 c.r1
      refine bodyPost_ret (spot_results2 rfl (.int .i64 140) (.int .i64 x) ht h2.1 h2.2) rfl ⟨?_, (hW.setCell (Nat.le_refl _) _).setCell (Nat.le_refl _) _⟩
      rw [← e, show chkV x = (140, x) from if_pos hx]
    have RA := Hid.mk' ret_at
    clear ret_at
    by_cases hp : pos < s.size
    · have hnx : ∀ ty, (Instr.next (.pointer (some ⟨w.heap.size + 1 + 1 + 1 + 1, 0, none⟩)) true ty).run Tryz.prog wr = _ := fun ty => Lib.run_next_any_at wr (w.heap.size + 4) s pos ty C.it hp
      have hwd := dec_pos s pos
      have hin := dec_in s pos hp
      have hle := dec_le s pos
      have C1 := C.iter (pos + (Utf8.decode s pos).2)
      have hbw1 := Lib.below_iterAt hbw (k := w.heap.size + 4) (by omega) s (pos + (Utf8.decode s pos).2)
      have hstep : chkD s (fuel + 1) pos l a wg = if 0 < pos ∧ wg < 0 ∧ a = 65533 ∧ (pos : Int) - l < 3 then (l : Int) else if 0 ≤ wg then wg else chkD s fuel (pos + (Utf8.decode s pos).2) pos (Utf8.decode s pos).1 (if (Utf8.decode s pos).1 < 32 ∨ (Utf8.decode s pos).1 = 127 ∨ (Utf8.decode s pos).1 = 47 then (pos : Int) else wg) := by rw [chkD, if_pos hp]
      obtain ⟨W1, hW1⟩ : ∃ W1, W1 = wr.iterAt (w.heap.size + 4) s (pos + (Utf8.decode s pos).2) := ⟨_, rfl⟩
      rw [← hW1] at hnx C1 hbw1
      generalize (Utf8.decode s pos).2 = wd at hnx C1 hbw1 hstep hwd hin hW1
      generalize (Utf8.decode s pos).1 = c at hnx hstep hle
      have X : Aside (chkD s (s.size + 1) 0 0 32 (-1) = (if 0 < pos ∧ wg < 0 ∧ a = 65533 ∧ (pos : Int) - l < 3 then (l : Int) else if 0 ≤ wg then wg else chkD s fuel (pos + wd) pos c (if c < 32 ∨ c = 127 ∨ c = 47 then (pos : Int) else wg)) ∧ CI W1 w.heap.size s (pos + wd) l wg a ∧ Below w.heap.size w W1) := ⟨HF.out.symm.trans hstep, C1, hbw1⟩
      have q0 : W1.cell? ⟨w.heap.size, 0, none⟩ = _ := C1.r0
      have q1 : W1.cell? ⟨w.heap.size, 1, none⟩ = _ := C1.r1
      have q2 : W1.cell? ⟨w.heap.size + 1, 0, none⟩ = _ := C1.cl
      have q3 : W1.cell? ⟨w.heap.size + 1 + 1, 0, none⟩ = _ := C1.cw
      have q4 : W1.cell? ⟨w.heap.size + 1 + 1 + 1, 0, none⟩ = _ := C1.ca
      have g0 : W1.frozen? ⟨w.heap.size, 0, none⟩ = _ := C1.f0
      have g1 : W1.frozen? ⟨w.heap.size, 1, none⟩ = _ := C1.f1
      have g2 : W1.frozen? ⟨w.heap.size + 1, 0, none⟩ = _ := C1.fl
      have g3 : W1.frozen? ⟨w.heap.size + 1 + 1, 0, none⟩ = _ := C1.fw
      have g4 : W1.frozen? ⟨w.heap.size + 1 + 1 + 1, 0, none⟩ = _ := C1.fa
      clear hstep HF hW1 C hbw C1 hbw1
      by_cases h0 : pos = 0
      · have h0' : ¬ ((0 : Int) < (pos : Int)) := by omega
        have hcc : ¬ (0 < pos ∧ wg < 0 ∧ a = 65533 ∧ (pos : Int) - (l : Int) < 3) := by omega
        have H0 := Hid.mk' h0
        clear h0
        by_cases hg : 0 ≤ wg
        · go_wp2_with (fail)
          refine (look_any (w.heap.size + 1) (w.heap.size + 1 + 1) (w.heap.size + 1 + 1 + 1) s.size l a wg W1 (by omega) (by omega) q2 q3 q4 g3).mono ?_
          rintro e w2 ⟨rfl, hw2⟩
          rw [if_neg (by omega)] at hw2
          subst hw2
          go_wp2_with (fail)
          exact RA.out w2 l wg a _ X.out.2.1 X.out.2.2 hg (by rw [X.out.1, if_neg hcc, if_pos hg]) _ rfl
        · go_wp2_with (fail)
          all_goals
            go_roundw
            case rel =>
              first
                | (rename_i hbad
                   have hbd : c < 32 ∨ c = 127 ∨ c = 47 := by first | omega | (simp at hbad; omega)
                   exact ⟨pos + wd, fuel, pos, pos, c, ((X.out.2.1.setL pos).setA c).setW pos, ((X.out.2.2.setCell (by simp) _).setCell (by simp; omega) _).setCell (by simp; omega) _, (show _ = _ by rw [X.out.1, if_neg hcc, if_neg (by omega), if_pos hbd]), by omega, by omega, by omega⟩)
                | (rename_i ha hbad
                   have hbd : ¬ (c < 32 ∨ c = 127 ∨ c = 47) := by simp at ha hbad; omega
                   exact ⟨pos + wd, fuel, pos, wg, c, (X.out.2.1.setL pos).setA c, (X.out.2.2.setCell (by simp) _).setCell (by simp; omega) _, (show _ = _ by rw [X.out.1, if_neg hcc, if_neg (by omega), if_neg hbd]), by omega, by omega, by omega⟩)
            case measure =>
              first
                | (rw [iterPos_of ((X.out.2.1.setL pos).setA c).it, hpos0]; omega)
                | (rw [iterPos_of (((X.out.2.1.setL pos).setA c).setW pos).it, hpos0]; omega)
      · have h0' : (0 : Int) < (pos : Int) := by omega
        by_cases hc : wg < 0 ∧ a = 65533 ∧ (pos : Int) - (l : Int) < 3
        · skip
          go_wp2_with (fail)
          refine (look_any (w.heap.size + 1) (w.heap.size + 1 + 1) (w.heap.size + 1 + 1 + 1) pos l a wg W1 (by omega) (by omega) q2 q3 q4 g3).mono ?_
          rintro e w' ⟨rfl, hw'⟩
          rw [if_pos hc] at hw'
          clear q0 q1 q2 q3 q4 g0 g1 g2 g3 g4
          have X2 : Aside (CI w' w.heap.size s (pos + wd) l l a ∧ Below w.heap.size w w') := by
            rw [hw']
            exact ⟨X.out.2.1.setW l, X.out.2.2.setCell (by simp; omega) _⟩
          clear hw'
          have q0 : w'.cell? ⟨w.heap.size, 0, none⟩ = _ := X2.out.1.r0
          have q1 : w'.cell? ⟨w.heap.size, 1, none⟩ = _ := X2.out.1.r1
          have q2 : w'.cell? ⟨w.heap.size + 1, 0, none⟩ = _ := X2.out.1.cl
          have q3 : w'.cell? ⟨w.heap.size + 1 + 1, 0, none⟩ = _ := X2.out.1.cw
          have q4 : w'.cell? ⟨w.heap.size + 1 + 1 + 1, 0, none⟩ = _ := X2.out.1.ca
          have g0 : w'.frozen? ⟨w.heap.size, 0, none⟩ = _ := X2.out.1.f0
          have g1 : w'.frozen? ⟨w.heap.size, 1, none⟩ = _ := X2.out.1.f1
          have g2 : w'.frozen? ⟨w.heap.size + 1, 0, none⟩ = _ := X2.out.1.fl
          have g3 : w'.frozen? ⟨w.heap.size + 1 + 1, 0, none⟩ = _ := X2.out.1.fw
          have g4 : w'.frozen? ⟨w.heap.size + 1 + 1 + 1, 0, none⟩ = _ := X2.out.1.fa
          have hlt : (0 : Int) ≤ (l : Int) := by omega
          go_wp2_with (fail)
          refine (look_any (w.heap.size + 1) (w.heap.size + 1 + 1) (w.heap.size + 1 + 1 + 1) s.size l a l w' (by omega) (by omega) q2 q3 q4 g3).mono ?_
          rintro e w2 ⟨rfl, hw2⟩
          rw [if_neg (by omega)] at hw2
          subst hw2
          go_wp2_with (fail)
          exact RA.out w2 l l a _ X2.out.1 X2.out.2 (by omega) (by rw [X.out.1, if_pos ⟨by omega, hc⟩]) _ rfl
        · have hcc : ¬ (0 < pos ∧ wg < 0 ∧ a = 65533 ∧ (pos : Int) - (l : Int) < 3) := fun h => hc h.2
          by_cases hg : 0 ≤ wg
          · skip
            go_wp2_with (fail)
            refine (look_any (w.heap.size + 1) (w.heap.size + 1 + 1) (w.heap.size + 1 + 1 + 1) pos l a wg W1 (by omega) (by omega) q2 q3 q4 g3).mono ?_
            rintro e w' ⟨rfl, hw'⟩
            rw [if_neg hc] at hw'
            subst hw'
            go_wp2_with (fail)
            refine (look_any (w.heap.size + 1) (w.heap.size + 1 + 1) (w.heap.size + 1 + 1 + 1) s.size l a wg w' (by omega) (by omega) q2 q3 q4 g3).mono ?_
            rintro e w2 ⟨rfl, hw2⟩
            rw [if_neg (by omega)] at hw2
            subst hw2
            go_wp2_with (fail)
            exact RA.out w2 l wg a _ X.out.2.1 X.out.2.2 hg (by rw [X.out.1, if_neg hcc, if_pos hg]) _ rfl
          · skip
            go_wp2_with (fail)
            refine (look_any (w.heap.size + 1) (w.heap.size + 1 + 1) (w.heap.size + 1 + 1 + 1) pos l a wg W1 (by omega) (by omega) q2 q3 q4 g3).mono ?_
            rintro e w' ⟨rfl, hw'⟩
            rw [if_neg hc] at hw'
            subst hw'
            go_wp2_with (fail)
            all_goals
              go_roundw
              case rel =>
                first
                  | (rename_i hbad
                     have hbd : c < 32 ∨ c = 127 ∨ c = 47 := by first | omega | (simp at hbad; omega)
                     exact ⟨pos + wd, fuel, pos, pos, c, ((X.out.2.1.setL pos).setA c).setW pos, ((X.out.2.2.setCell (by simp) _).setCell (by simp; omega) _).setCell (by simp; omega) _, (show _ = _ by rw [X.out.1, if_neg hcc, if_neg (by omega), if_pos hbd]), by omega, by omega, by omega⟩)
                  | (rename_i ha hbad
                     have hbd : ¬ (c < 32 ∨ c = 127 ∨ c = 47) := by simp at ha hbad; omega
                     exact ⟨pos + wd, fuel, pos, wg, c, (X.out.2.1.setL pos).setA c, (X.out.2.2.setCell (by simp) _).setCell (by simp; omega) _, (show _ = _ by rw [X.out.1, if_neg hcc, if_neg (by omega), if_neg hbd]), by omega, by omega, by omega⟩)
              case measure =>
                first
                  | (rw [iterPos_of ((X.out.2.1.setL pos).setA c).it, hpos0]; omega)
                  | (rw [iterPos_of (((X.out.2.1.setL pos).setA c).setW pos).it, hpos0]; omega)
    · have hnx : ∀ ty, (Instr.next (.pointer (some ⟨w.heap.size + 1 + 1 + 1 + 1, 0, none⟩)) true ty).run Tryz.prog wr = .ok (.tuple #[.bool false]) wr := fun ty => by
        have := C.it
        simp [Instr.next, getObj, Sem.run, this, hp]
      have X : Aside (chkD s (s.size + 1) 0 0 32 (-1) = (if wg < 0 ∧ a = 65533 ∧ (s.size : Int) - l < 3 then (l : Int) else wg) ∧ CI wr w.heap.size s pos l wg a ∧ Below w.heap.size w wr) := ⟨by rw [← HF.out, chkD, if_neg hp], C, hbw⟩
      have q0 : wr.cell? ⟨w.heap.size, 0, none⟩ = _ := C.r0
      have q1 : wr.cell? ⟨w.heap.size, 1, none⟩ = _ := C.r1
      have q2 : wr.cell? ⟨w.heap.size + 1, 0, none⟩ = _ := C.cl
      have q3 : wr.cell? ⟨w.heap.size + 1 + 1, 0, none⟩ = _ := C.cw
      have q4 : wr.cell? ⟨w.heap.size + 1 + 1 + 1, 0, none⟩ = _ := C.ca
      have g0 : wr.frozen? ⟨w.heap.size, 0, none⟩ = _ := C.f0
      have g1 : wr.frozen? ⟨w.heap.size, 1, none⟩ = _ := C.f1
      have g2 : wr.frozen? ⟨w.heap.size + 1, 0, none⟩ = _ := C.fl
      have g3 : wr.frozen? ⟨w.heap.size + 1 + 1, 0, none⟩ = _ := C.fw
      have g4 : wr.frozen? ⟨w.heap.size + 1 + 1 + 1, 0, none⟩ = _ := C.fa
      clear HF C hbw
      by_cases hc : wg < 0 ∧ a = 65533 ∧ (s.size : Int) - (l : Int) < 3
      · skip
        go_wp2_with (fail)
        refine (look_any (w.heap.size + 1) (w.heap.size + 1 + 1) (w.heap.size + 1 + 1 + 1) s.size l a wg wr (by omega) (by omega) q2 q3 q4 g3).mono ?_
        rintro e w' ⟨rfl, hw'⟩
        rw [if_pos hc] at hw'
        clear q0 q1 q2 q3 q4 g0 g1 g2 g3 g4
        have X2 : Aside (CI w' w.heap.size s pos l l a ∧ Below w.heap.size w w') := by
          rw [hw']
          exact ⟨X.out.2.1.setW l, X.out.2.2.setCell (by simp; omega) _⟩
        clear hw'
        have q0 : w'.cell? ⟨w.heap.size, 0, none⟩ = _ := X2.out.1.r0
        have q1 : w'.cell? ⟨w.heap.size, 1, none⟩ = _ := X2.out.1.r1
        have q2 : w'.cell? ⟨w.heap.size + 1, 0, none⟩ = _ := X2.out.1.cl
        have q3 : w'.cell? ⟨w.heap.size + 1 + 1, 0, none⟩ = _ := X2.out.1.cw
        have q4 : w'.cell? ⟨w.heap.size + 1 + 1 + 1, 0, none⟩ = _ := X2.out.1.ca
        have g0 : w'.frozen? ⟨w.heap.size, 0, none⟩ = _ := X2.out.1.f0
        have g1 : w'.frozen? ⟨w.heap.size, 1, none⟩ = _ := X2.out.1.f1
        have g2 : w'.frozen? ⟨w.heap.size + 1, 0, none⟩ = _ := X2.out.1.fl
        have g3 : w'.frozen? ⟨w.heap.size + 1 + 1, 0, none⟩ = _ := X2.out.1.fw
        have g4 : w'.frozen? ⟨w.heap.size + 1 + 1 + 1, 0, none⟩ = _ := X2.out.1.fa
        have hlt : (0 : Int) ≤ (l : Int) := by omega
        go_wp2_with (fail)
        exact RA.out w' l l a _ X2.out.1 X2.out.2 (by omega) (by rw [X.out.1, if_pos hc]) _ rfl
      · by_cases hg : 0 ≤ wg
        · skip
          go_wp2_with (fail)
          refine (look_any (w.heap.size + 1) (w.heap.size + 1 + 1) (w.heap.size + 1 + 1 + 1) s.size l a wg wr (by omega) (by omega) q2 q3 q4 g3).mono ?_
          rintro e w' ⟨rfl, hw'⟩
          rw [if_neg hc] at hw'
          subst hw'
          go_wp2_with (fail)
          exact RA.out w' l wg a _ X.out.2.1 X.out.2.2 hg (by rw [X.out.1, if_neg hc]) _ rfl
        · skip
          go_wp2_with (fail)
          refine (look_any (w.heap.size + 1) (w.heap.size + 1 + 1) (w.heap.size + 1 + 1 + 1) s.size l a wg wr (by omega) (by omega) q2 q3 q4 g3).mono ?_
          rintro e w' ⟨rfl, hw'⟩
          rw [if_neg hc] at hw'
          subst hw'
          go_wp2_with (fail)
          have h2 := two_cells (x := .int .i64 0) (y := .int .i64 0) q0 q1
          refine bodyPost_ret (spot_results2 rfl (.int .i64 0) (.int .i64 0) rfl h2.1 h2.2) rfl ⟨?_, (X.out.2.2.setCell (Nat.le_refl _) _).setCell (Nat.le_refl _) _⟩
          rw [X.out.1, if_neg hc, show chkV wg = (0, 0) from if_neg (by omega)]

set_option maxRecDepth 1000000 in
set_option maxHeartbeats 4000000 in
/-- name.Check is the document's answer: of every name. -/
theorem check_any (s : ByteArray) (w : World) (hsz : s.size ≤ 8796093022207) :
    Calls Tryz.prog 58 #[.string s] w fun e w' => e = .returned (.agg #[.int .i64 (spotD s).1, .int .i64 (spotD s).2]) ∧ Below w.heap.size w w' := by
  have fin : ∀ (v : Value) (w' : World), w' = w.alloc (Obj.cells #[Value.int IntKind.i64 140, Value.int IntKind.i64 0] 96) → spotD s = (140, 0) → ∀ tmps : Array Value, tmps.getD 2 undef = .pointer (some ⟨w.heap.size, 0, none⟩) → bodyPost Tryz.prog Tryz.f58 (fun e w' => e = .returned (.agg #[.int .i64 (spotD s).1, .int .i64 (spotD s).2]) ∧ Below w.heap.size w w') .ret ⟨tmps, []⟩ w' := by
    intro _ w' hw e tmps ht
    subst hw
    refine bodyPost_ret (spot_results (tmps := tmps) rfl (.int .i64 140) (.int .i64 0) ht (World.alloc_last _ _)) rfl ⟨?_, (Below.refl _ _).alloc (Nat.le_refl _) _⟩
    rw [e]; rfl
  by_cases h1 : s.toList = []
  · have e := show spotD s = (140, 0) from by unfold spotD; rw [if_pos (.inl h1)]
    have F := Hid.mk' fin
    clear fin
    have E := Hid.mk' e
    clear e
    go_enter Tryz.func58, Tryz.ntmps58
    go_wp2
    exact F.out (.bool true) _ rfl E.out _ rfl
  · by_cases h2 : s.toList = [46]
    · have e := show spotD s = (140, 0) from by unfold spotD; rw [if_pos (.inr (.inl h2))]
      have q1 : s.toList.isEmpty = false := by rw [h2]; rfl
      have q2 : (s.toList == [46]) = true := by rw [h2]; rfl
      have F := Hid.mk' fin
      have E := Hid.mk' e
      clear e fin h1 h2
      go_enter Tryz.func58, Tryz.ntmps58
      go_wp2
      exact F.out (.bool true) _ rfl E.out _ rfl
    · by_cases h3 : s.toList = [46, 46]
      · have e := show spotD s = (140, 0) from by unfold spotD; rw [if_pos (.inr (.inr h3))]
        have q1 : s.toList.isEmpty = false := by rw [h3]; rfl
        have q2 : (s.toList == [46]) = false := by rw [h3]; rfl
        have q3 : (s.toList == [46, 46]) = true := by rw [h3]; rfl
        have F := Hid.mk' fin
        have E := Hid.mk' e
        clear e fin h1 h2 h3
        go_enter Tryz.func58, Tryz.ntmps58
        go_wp2
        exact F.out (.bool true) _ rfl E.out _ rfl
      · have q1 : s.toList.isEmpty = false := by cases hl : s.toList with | nil => exact absurd hl h1 | cons _ _ => rfl
        have q2 : (s.toList == [46]) = false := by simpa using h2
        have q3 : (s.toList == [46, 46]) = false := by simpa using h3
        have h4 : ¬ (s.toList = [] ∨ s.toList = [46] ∨ s.toList = [46, 46]) := fun h => h.elim h1 fun h => h.elim h2 h3
        by_cases h5 : 32 < s.size
        · have e := show spotD s = (3, 32) from by unfold spotD; rw [if_neg h4, if_pos h5]
          have h5' : (32 : Int) < (s.size : Int) := by omega
          have E := Hid.mk' e
          clear e fin h1 h2 h3 h4
          go_enter Tryz.func58, Tryz.ntmps58
          go_wp2
          refine bodyPost_ret (spot_results rfl (.int .i64 3) (.int .i64 32) rfl (World.alloc_last _ _)) rfl ⟨?_, (Below.refl _ _).alloc (Nat.le_refl _) _⟩
          rw [E.out]; rfl
        · have hpos : 0 < s.size := by
            rcases Nat.eq_zero_or_pos s.size with h | h
            · exact absurd (by rw [ByteArray.toList_eq]; exact List.eq_nil_of_length_eq_zero (by simpa using h)) h1
            · exact h
          refine (check_loop s w (by omega) q1 q2 q3).mono fun e w' ⟨he, hw⟩ => ⟨?_, hw⟩
          rw [he, chk_start s hpos]
          unfold spotD
          rw [if_neg h4, if_neg h5]
          cases hf : firstBad s (s.size + 1) 0 with
          | none => rfl
          | some i => rw [show chkV (atOf (some i)) = (140, (i : Int)) from if_pos (by show (0 : Int) ≤ (i : Int); omega)]; rfl
end Go.Proofs

/- A part of the proof of AuditNone: the runs of the document's example and of the law's body, and facts of the row. Conditions: none. -/
import Derived.Test.YtoohpocfhfemnaaGreatDoorWalkJ
import Derived.WideMake
namespace Go.Proofs
open Go.Shelf Go.RowKit Go.Lib
variable {I S : Nat → Prop}

/-- "objects". -/
abbrev objS : ByteArray := ⟨#[111, 98, 106, 101, 99, 116, 115]⟩
/-- The files of a disk: none, or one of this name. -/
def filesO : Option Value → Obj
  | none => .map #[] 0
  | some v => .map #[⟨.string objS, v, 0⟩] 1
def Files (w : World) (m : Nat) (x : Option Value) : Prop := w.heap[m]? = some (filesO x)

section
set_option maxRecDepth 1000000
theorem u57 : Tryz.prog.underlying 57 = some (.map 9 22) := by kernel_rfl
theorem u9 : Tryz.prog.underlying 9 = some .string := by kernel_rfl
theorem z22 (w : World) : (zeroValue 22).run Tryz.prog w = .ok (.slice none 0 0) w := by kernel_rfl
end

theorem look_run {w : World} {m : Nat} {es : Array MapEntry} {clk : Nat} (hm : w.heap[m]? = some (.map es clk)) (s : ByteArray) (ok : Bool) (a : Option (Nat × Value)) (hf : Instr.findNow .string (.string s) es.toList 0 = some a) :
    (Instr.lookup 57 (.map (some m)) (.string s) ok).run Tryz.prog w = .ok (if ok = true then .tuple #[(match a with | some (_, v) => v | none => .slice none 0 0), .bool (match a with | some _ => true | none => false)] else (match a with | some (_, v) => v | none => .slice none 0 0)) w := by
  have hc : (Instr.checkKey es.isEmpty 10000 9 (.string s)).run Tryz.prog w = .ok () w := MapKept.run_checkKey (k := .string s) u9 (by simp [MapKept.IsKey]) es.isEmpty 9999
  have hz := z22 w
  have hk := MapKept.run_findKey (w := w) u9 hf
  cases a with
  | none => cases ok <;> simp [Instr.lookup, run_underlying u57, MapKept.run_getObj_map hm, hc, hk, hz, Result.andThen]
  | some p => obtain ⟨i, v⟩ := p; cases ok <;> simp [Instr.lookup, run_underlying u57, MapKept.run_getObj_map hm, hc, hk, Result.andThen]

theorem find_none (s : ByteArray) : Instr.findNow .string (.string s) (#[] : Array MapEntry).toList 0 = some none := rfl
theorem bytes_beq (s t : ByteArray) : (s == t) = decide (s = t) := by
  cases s; cases t
  rename_i a b
  show (a == b) = _
  by_cases h : a = b
  · subst h; simp
  · have : (a == b) = false := by simpa using h
    rw [this]
    symm
    simpa using h
theorem find_hit (v : Value) (b : Nat) : Instr.findNow .string (.string objS) (#[⟨.string objS, v, b⟩] : Array MapEntry).toList 0 = some (some (0, v)) := by
  simp [Instr.findNow, Instr.sameNow, bytes_beq]
theorem find_miss (s : ByteArray) (hs : s ≠ objS) (v : Value) (b : Nat) : Instr.findNow .string (.string s) (#[⟨.string objS, v, b⟩] : Array MapEntry).toList 0 = some none := by
  have : (s == objS) = false := by rw [bytes_beq]; simpa using hs
  simp [Instr.findNow, Instr.sameNow, this]

theorem look_hit {w : World} {m : Nat} {v : Value} (h : Files w m (some v)) : (Instr.lookup 57 (.map (some m)) (.string objS) true).run Tryz.prog w = .ok (.tuple #[v, .bool true]) w :=
  look_run h objS true _ (find_hit v 0)
theorem look_hit' {w : World} {m : Nat} {v : Value} (h : Files w m (some v)) : (Instr.lookup 57 (.map (some m)) (.string objS) false).run Tryz.prog w = .ok v w :=
  look_run h objS false _ (find_hit v 0)
theorem look_miss {w : World} {m : Nat} {x : Option Value} (h : Files w m x) (s : ByteArray) (hs : s ≠ objS) : (Instr.lookup 57 (.map (some m)) (.string s) true).run Tryz.prog w = .ok (.tuple #[.slice none 0 0, .bool false]) w := by
  cases x with
  | none => exact look_run h s true _ (find_none s)
  | some v => exact look_run h s true _ (find_miss s hs v 0)
theorem look_empty {w : World} {m : Nat} (h : Files w m none) (s : ByteArray) (ok : Bool) : (Instr.lookup 57 (.map (some m)) (.string s) ok).run Tryz.prog w = .ok (if ok = true then .tuple #[.slice none 0 0, .bool false] else .slice none 0 0) w :=
  look_run h s ok _ (find_none s)

/-- The world in which a block is this map. -/
def World.setMap (w : World) (m : Nat) (es : Array MapEntry) (clk : Nat) : World := { w with heap := w.heap.setIfInBounds m (.map es clk) }
theorem setMap_turn (w : World) (m : Nat) (es : Array MapEntry) (clk : Nat) : Turn (fun k => k = m) w (World.setMap w m es clk) :=
  ⟨rfl, rfl, rfl, by simp [World.setMap], fun k _ hk => by simp [World.setMap, Array.getElem?_setIfInBounds, Ne.symm hk]⟩
theorem setMap_at {w : World} {m : Nat} (hm : m < w.heap.size) (es : Array MapEntry) (clk : Nat) : (World.setMap w m es clk).heap[m]? = some (.map es clk) := by
  simp [World.setMap, hm]

/-- A file is laid: there was none. -/
theorem upd_empty {w : World} {m : Nat} (h : Files w m none) (v : Value) : ∃ w', (Instr.mapUpdate 57 (.map (some m)) (.string objS) v).run Tryz.prog w = .ok () w' ∧ Files w' m (some v) ∧ Turn (fun k => k = m) w w' := by
  have hm : w.heap[m]? = some (.map #[] 0) := h
  have hlt : m < w.heap.size := (Array.getElem?_eq_some_iff.1 hm).1
  exact ⟨World.setMap w m #[⟨.string objS, v, 0⟩] (0 + 1), run_mapUpdate_first w 57 9 22 m 0 objS v u57 u9 hm, setMap_at hlt _ _, setMap_turn _ _ _ _⟩
/-- A file is laid anew. -/
theorem upd_hit {w : World} {m : Nat} {v0 : Value} (h : Files w m (some v0)) (v : Value) : ∃ w', (Instr.mapUpdate 57 (.map (some m)) (.string objS) v).run Tryz.prog w = .ok () w' ∧ Files w' m (some v) ∧ Turn (fun k => k = m) w w' := by
  have hm : w.heap[m]? = some (.map #[⟨.string objS, v0, 0⟩] 1) := h
  have hlt : m < w.heap.size := (Array.getElem?_eq_some_iff.1 hm).1
  have hc : (Instr.checkKey false 10000 9 (.string objS)).run Tryz.prog w = .ok () w := MapKept.run_checkKey (k := .string objS) u9 (by simp [MapKept.IsKey]) false 9999
  have hk := MapKept.run_findKey (w := w) u9 (find_hit v0 0)
  have hs : (Instr.keyThatStays (.string objS) (.string objS)).run Tryz.prog w = .ok (.string objS) w := by
    have : Instr.sameBits 10000 (.string objS) (.string objS) = true := by unfold Instr.sameBits; rw [bytes_beq]; simp
    simp [Instr.keyThatStays, this]
  refine ⟨World.setMap w m #[⟨.string objS, v, 0⟩] 1, ?_, setMap_at hlt _ _, setMap_turn _ _ _ _⟩
  simp [Instr.mapUpdate, run_underlying u57, MapKept.run_getObj_map hm, hc, hk, hs, MapKept.run_setObj_map _ hm, Result.andThen, World.setMap]

theorem Files.lt {w : World} {m : Nat} {x : Option Value} (h : Files w m x) : m < w.heap.size := (Array.getElem?_eq_some_iff.1 h).1
theorem Files.turn {w w' : World} {m : Nat} {x : Option Value} (h : Files w m x) (t : Turn S w w') (hm : ¬ S m) : Files w' m x := (t.block m h.lt hm).trans h

/-- A disk that is not cut. -/
structure DiskAt (w : World) (d m : Nat) (x : Option Value) (n : Int) : Prop where
  c0 : w.cell? ⟨d, 0, none⟩ = some (.map (some m))
  c1 : w.cell? ⟨d, 1, none⟩ = some (.int .i64 n)
  c3 : w.cell? ⟨d, 3, none⟩ = some (.bool false)
  z1 : w.frozen? ⟨d, 1, none⟩ = false
  fs : Files w m x
theorem DiskAt.lt {w : World} {d m : Nat} {x : Option Value} {n : Int} (h : DiskAt w d m x n) : d < w.heap.size := World.block_lt_of_cell? w ⟨d, 0, none⟩ h.c0
theorem DiskAt.turn {w w' : World} {d m : Nat} {x : Option Value} {n : Int} (h : DiskAt w d m x n) (t : Turn S w w') (hd : ¬ S d) (hm : ¬ S m) : DiskAt w' d m x n :=
  ⟨t.cell h.c0 hd, t.cell h.c1 hd, t.cell h.c3 hd, (t.frozen h.lt hd).trans h.z1, h.fs.turn t hm⟩
theorem DiskAt.ne {w : World} {d m : Nat} {x : Option Value} {n : Int} (h : DiskAt w d m x n) : d ≠ m := by
  rintro rfl
  have h1 := h.fs
  unfold Files at h1
  have := h.c0
  cases x <;> simp [World.cell?, h1, filesO] at this
theorem BytesOff.off {w : World} {r r' : Nat} {v : Value} {l : List UInt8} (h : BytesOff w r I v l) (hI : ∀ k, I k → k < w.heap.size → k ≠ r') : BytesOff w r' I v l := by
  rcases h with ⟨b, o, c, h1, h2, h5, h3, h6, h4⟩ | h
  · exact .inl ⟨b, o, c, h1, h2, h5, h3, hI _ h3.1 h3.2, h4⟩
  · exact .inr h
end Go.Proofs

namespace Go.Proofs
open Go.Shelf Go.RowKit Go.Lib
variable {I S : Nat → Prop}

set_option maxRecDepth 1000000 in
set_option maxHeartbeats 4000000 in
theorem diskread_hit (d m r r' : Nat) (n : Int) (v : Value) (l : List UInt8) (w : World) (h : DiskAt w d m (some v) n) (hv : BytesOff w r I v l) (hl : l.length ≤ 1000000) (hr' : r' < w.heap.size) :
    Calls Tryz.prog 11 #[.pointer (some ⟨d, 0, none⟩), .string objS] w fun e w' => ∃ v', e = .returned (.tuple #[v', .int .i64 0]) ∧ BytesOff w' r' (fun k => w.heap.size ≤ k ∧ k < w'.heap.size) v' l ∧ Below w.heap.size w w' := by
  have q := look_hit h.fs
  have c0 := h.c0
  obtain ⟨a, c, rfl⟩ := hv.len
  have H := Hid.mk' hv
  clear h hv
  go_enter Tryz.func11, Tryz.ntmps11
  go_wp2_with (fail)
  refine (clone_any r r' l _ w H.out hr' (by omega)).mono ?_
  rintro e w' ⟨v', rfl, hb, hbl⟩
  obtain ⟨a2, c2, rfl⟩ := hb.len
  go_wp2_with (fail)
  go_ret2
  exact ⟨_, rfl, hb, hbl⟩

set_option maxRecDepth 1000000 in
set_option maxHeartbeats 4000000 in
theorem diskread_miss (d m : Nat) (n : Int) (x : Option Value) (s : ByteArray) (w : World) (h : DiskAt w d m x n) (hs : s ≠ objS ∨ x = none) :
    Calls Tryz.prog 11 #[.pointer (some ⟨d, 0, none⟩), .string s] w fun e w' => e = .returned (.tuple #[.slice none 0 0, .int .i64 4]) ∧ w' = w := by
  have q : (Instr.lookup 57 (.map (some m)) (.string s) true).run Tryz.prog w = .ok (.tuple #[.slice none 0 0, .bool false]) w := by
    rcases hs with hs | rfl
    · exact look_miss h.fs s hs
    · exact look_empty h.fs s true
  have c0 := h.c0
  clear h hs
  go_enter Tryz.func11, Tryz.ntmps11
  go_wp2_with (fail)
  go_ret2
  exact ⟨rfl, rfl⟩

set_option maxRecDepth 1000000 in
set_option maxHeartbeats 4000000 in
/-- A raw write, done. -/
theorem raw_19 (d m : Nat) (p0 p1 : Value) (n : Int) (x : Option Value) (w : World) (h : DiskAt w d m x n) (hn : 0 ≤ n ∧ n ≤ 1000000) (K : World → Prop)
    (hcl : Calls Tryz.prog 19 #[p0, p1] (w.setCell ⟨d, 1, none⟩ (.int .i64 (n + 1))) fun e w' => e = .returned (.tuple #[]) ∧ K w') :
    Calls Tryz.prog 18 #[.pointer (some ⟨d, 0, none⟩), .func (.func 19) #[] #[p0, p1]] w fun e w' => e = .returned (.int .i64 0) ∧ K w' := by
  have c1 := h.c1
  have c3 := h.c3
  have z1 := h.z1
  have hw : wrap64 (n + 1) = n + 1 := by simp only [wrap64]; omega
  have hw2 : IntKind.i64.wrap (n + 1) = n + 1 := by rw [IntKind.wrap_i64]; omega
  clear h
  go_enter Tryz.func18, Tryz.ntmps18
  go_wp2_with (fail)
  refine hcl.mono ?_
  rintro e w' ⟨rfl, hk⟩
  go_wp2_with (fail)
  go_ret
  exact ⟨rfl, hk⟩
set_option maxRecDepth 1000000 in
set_option maxHeartbeats 4000000 in
/-- A raw write, done. -/
theorem raw_20 (d m : Nat) (p0 p1 p2 : Value) (n : Int) (x : Option Value) (w : World) (h : DiskAt w d m x n) (hn : 0 ≤ n ∧ n ≤ 1000000) (K : World → Prop)
    (hcl : Calls Tryz.prog 20 #[p0, p1, p2] (w.setCell ⟨d, 1, none⟩ (.int .i64 (n + 1))) fun e w' => e = .returned (.tuple #[]) ∧ K w') :
    Calls Tryz.prog 18 #[.pointer (some ⟨d, 0, none⟩), .func (.func 20) #[] #[p0, p1, p2]] w fun e w' => e = .returned (.int .i64 0) ∧ K w' := by
  have c1 := h.c1
  have c3 := h.c3
  have z1 := h.z1
  have hw : wrap64 (n + 1) = n + 1 := by simp only [wrap64]; omega
  have hw2 : IntKind.i64.wrap (n + 1) = n + 1 := by rw [IntKind.wrap_i64]; omega
  clear h
  go_enter Tryz.func18, Tryz.ntmps18
  go_wp2_with (fail)
  refine hcl.mono ?_
  rintro e w' ⟨rfl, hk⟩
  go_wp2_with (fail)
  go_ret
  exact ⟨rfl, hk⟩
set_option maxRecDepth 1000000 in
set_option maxHeartbeats 4000000 in
/-- A raw write, done. -/
theorem raw_88 (d m : Nat) (p0 p1 p2 p3 : Value) (n : Int) (x : Option Value) (w : World) (h : DiskAt w d m x n) (hn : 0 ≤ n ∧ n ≤ 1000000) (K : World → Prop)
    (hcl : Calls Tryz.prog 88 #[p0, p1, p2, p3] (w.setCell ⟨d, 1, none⟩ (.int .i64 (n + 1))) fun e w' => e = .returned (.tuple #[]) ∧ K w') :
    Calls Tryz.prog 18 #[.pointer (some ⟨d, 0, none⟩), .func (.func 88) #[] #[p0, p1, p2, p3]] w fun e w' => e = .returned (.int .i64 0) ∧ K w' := by
  have c1 := h.c1
  have c3 := h.c3
  have z1 := h.z1
  have hw : wrap64 (n + 1) = n + 1 := by simp only [wrap64]; omega
  have hw2 : IntKind.i64.wrap (n + 1) = n + 1 := by rw [IntKind.wrap_i64]; omega
  clear h
  go_enter Tryz.func18, Tryz.ntmps18
  go_wp2_with (fail)
  refine hcl.mono ?_
  rintro e w' ⟨rfl, hk⟩
  go_wp2_with (fail)
  go_ret
  exact ⟨rfl, hk⟩
theorem DiskAt.count {w : World} {d m : Nat} {n : Int} {x : Option Value} (h : DiskAt w d m x n) (n' : Int) : DiskAt (w.setCell ⟨d, 1, none⟩ (.int .i64 n')) d m x n' :=
  ⟨(World.cell?_setCell_other _ _ _ _ (by simp)).trans h.c0, World.cell?_setCell_same _ _ _ h.c1, (World.cell?_setCell_other _ _ _ _ (by simp)).trans h.c3, (World.frozen?_setCell _ _ _ _).trans h.z1, h.fs.turn ((Turn.refl (fun k => k = d) w).setCell (p := ⟨d, 1, none⟩) rfl _) (Ne.symm h.ne)⟩
end Go.Proofs

/- A part of the proof of AuditNone: the runs of the document's example and of the law's body, and facts of the row. Conditions: none. -/
import Derived.Test.YtoohpocfhfemnaaGreatDoorWalkI
import Derived.Lib.ConvBytes
namespace Go.Proofs
open Go.Shelf Go.RowKit Go.Lib
variable {I S : Nat → Prop}

def partCells (ps : List (Nat × Nat)) : List Value := ps.flatMap fun p => [.int .i64 p.1, .int .i64 p.2]
theorem partCells_snoc (ps : List (Nat × Nat)) (p : Nat × Nat) : partCells (ps ++ [p]) = partCells ps ++ [.int .i64 p.1, .int .i64 p.2] := by simp [partCells, List.flatMap_append]
def u8s (l : List UInt8) : List Value := l.map fun x => Value.int .u8 (x.toNat : Int)
theorem u8s_append (a b : List UInt8) : u8s (a ++ b) = u8s a ++ u8s b := by simp [u8s]
theorem u8s_len (l : List UInt8) : (u8s l).length = l.length := by simp [u8s]

/-- A journal. -/
structure JAt (w : World) (j d B : Nat) (va vp : Value) (f : ByteArray) (all : List UInt8) (parts : List (Nat × Nat)) (sz : Nat) : Prop where
  c0 : w.cell? ⟨j, 0, none⟩ = some (.pointer (some ⟨d, 0, none⟩))
  c1 : w.cell? ⟨j, 1, none⟩ = some (.string f)
  c2 : w.cell? ⟨j, 2, none⟩ = some va
  c3 : w.cell? ⟨j, 3, none⟩ = some vp
  c4 : w.cell? ⟨j, 4, none⟩ = some (.int .i64 sz)
  c5 : w.cell? ⟨j, 5, none⟩ = some (.bool false)
  z2 : w.frozen? ⟨j, 2, none⟩ = false
  z3 : w.frozen? ⟨j, 3, none⟩ = false
  z4 : w.frozen? ⟨j, 4, none⟩ = false
  oa : w.ownsRow B 5 1 va all.length (u8s all)
  op : w.ownsRow B 191 2 vp parts.length (partCells parts)
  sep : ∀ k, va.ownBlock = some k → vp.ownBlock = some k → False
  jB : j < B
  sB : B ≤ w.heap.size

theorem JAt.turn {w w' : World} {j d B : Nat} {va vp : Value} {f : ByteArray} {all : List UInt8} {parts : List (Nat × Nat)} {sz : Nat} (h : JAt w j d B va vp f all parts sz) (t : Turn S w w') (hj : ¬ S j) (ha : ∀ k, va.ownBlock = some k → ¬ S k) (hp : ∀ k, vp.ownBlock = some k → ¬ S k) : JAt w' j d B va vp f all parts sz :=
  have hlt : j < w.heap.size := Nat.lt_of_lt_of_le h.jB h.sB
  ⟨t.cell h.c0 hj, t.cell h.c1 hj, t.cell h.c2 hj, t.cell h.c3 hj, t.cell h.c4 hj, t.cell h.c5 hj, (t.frozen hlt hj).trans h.z2, (t.frozen hlt hj).trans h.z3, (t.frozen hlt hj).trans h.z4, t.owns h.oa ha, t.owns h.op hp, h.sep, h.jB, Nat.le_trans h.sB t.size⟩
theorem JAt.alloc {w : World} {j d B : Nat} {va vp : Value} {f : ByteArray} {all : List UInt8} {parts : List (Nat × Nat)} {sz : Nat} (h : JAt w j d B va vp f all parts sz) (o : Obj) : JAt (w.alloc o) j d B va vp f all parts sz :=
  h.turn (S := fun _ => False) ((Turn.refl _ _).alloc o) id (fun _ _ => id) (fun _ _ => id)

theorem slice_of_owns {w : World} {B : Nat} {e : TypeId} {size : Nat} {v : Value} {n : Nat} {xs : List Value} (h : w.ownsRow B e size v n xs) : ∃ a c, v = .slice a n c := by
  rcases h.2 with ⟨rfl, rfl⟩ | ⟨g, cap, cur, rfl, _⟩
  · exact ⟨_, _, rfl⟩
  · exact ⟨_, _, rfl⟩

theorem own_setCell {w : World} {j B : Nat} {e : TypeId} {size : Nat} {v : Value} {n : Nat} {xs : List Value} (h : w.ownsRow B e size v n xs) (hj : j < B) (k : Nat) (u : Value) : (w.setCell ⟨j, k, none⟩ u).ownsRow B e size v n xs :=
  ((Turn.refl (fun x => x = j) w).setCell (p := ⟨j, k, none⟩) rfl u).owns h (fun x hx e => by have := (h.lt x hx).1; omega)
theorem JAt.setAll {w w1 : World} {j d B : Nat} {va vp v' : Value} {f : ByteArray} {all l : List UInt8} {parts : List (Nat × Nat)} {sz : Nat} (h : JAt w j d B va vp f all parts sz) (hg : w.grownBy w1 va.ownBlock)
    (ho : w1.ownsRow B 5 1 v' (all.length + l.length) (u8s all ++ u8s l)) (hat : v'.ownBlock = va.ownBlock ∨ v'.ownBlock = some w.heap.size) :
    (w1.cell? ⟨j, 2, none⟩ = some va ∧ w1.frozen? ⟨j, 2, none⟩ = false) ∧ JAt (w1.setCell ⟨j, 2, none⟩ v') j d B v' vp f (all ++ l) parts sz ∧ Turn (fun k => k = j ∨ B ≤ k) w (w1.setCell ⟨j, 2, none⟩ v') := by
  have hlt : j < w.heap.size := Nat.lt_of_lt_of_le h.jB h.sB
  have hT : Turn (fun k => va.ownBlock = some k) w w1 := (Turn.refl (fun k => va.ownBlock = some k) w).grown hg (fun k hk => hk)
  have hj : ¬ va.ownBlock = some j := fun e => by have := (h.oa.lt j e).1; have := h.jB; omega
  have h2 := hT.cell h.c2 hj
  have ho' : w1.ownsRow B 5 1 v' (all ++ l).length (u8s (all ++ l)) := by rw [List.length_append, u8s_append]; exact ho
  have cc : ∀ k v, k ≠ 2 → w.cell? ⟨j, k, none⟩ = some v → (w1.setCell ⟨j, 2, none⟩ v').cell? ⟨j, k, none⟩ = some v := fun k v hk hc => (World.cell?_setCell_other _ _ _ _ (by simp)).trans (hT.cell hc hj)
  have ff : ∀ k, w.frozen? ⟨j, k, none⟩ = false → (w1.setCell ⟨j, 2, none⟩ v').frozen? ⟨j, k, none⟩ = false := fun k hk => (World.frozen?_setCell _ _ _ _).trans ((hT.frozen (p := ⟨j, k, none⟩) hlt hj).trans hk)
  refine ⟨⟨h2, (hT.frozen (p := ⟨j, 2, none⟩) hlt hj).trans h.z2⟩, ⟨cc 0 _ (by decide) h.c0, cc 1 _ (by decide) h.c1, World.cell?_setCell_same _ _ _ h2, cc 3 _ (by decide) h.c3, cc 4 _ (by decide) h.c4, cc 5 _ (by decide) h.c5, ff 2 h.z2, ff 3 h.z3, ff 4 h.z4, own_setCell ho' h.jB _ _, own_setCell (hT.owns h.op (fun k hk e => h.sep k e hk)) h.jB _ _, ?_, h.jB, ?_⟩, ?_⟩
  · intro k h1 h2
    rcases hat with e | e
    · exact h.sep k (e.symm.trans h1) h2
    · have := (h.op.lt k h2).2
      rw [e] at h1
      have : w.heap.size = k := by simpa using h1
      omega
  · have := h.sB; have := hT.size; simp; omega
  · exact (hT.mono (fun k _ hk => .inr (h.oa.lt k hk).1)).setCell (p := ⟨j, 2, none⟩) (.inl rfl) _
theorem JAt.setParts {w w1 : World} {j d B g cap H : Nat} {va vp : Value} {f : ByteArray} {all : List UInt8} {parts : List (Nat × Nat)} {p : Nat × Nat} {sz : Nat} (h : JAt w j d B va vp f all parts sz) (o : Obj) (hg : (w.alloc o).grownBy w1 vp.ownBlock)
    (ho : w1.ownsRow B 191 2 (.slice (some ⟨g, 0, none⟩) (parts.length + 1) cap) (parts.length + 1) (partCells parts ++ [.int .i64 p.1, .int .i64 p.2])) (hat : vp.ownBlock = some g ∨ g = H) (hH : w.heap.size ≤ H) :
    (w1.cell? ⟨j, 3, none⟩ = some vp ∧ w1.frozen? ⟨j, 3, none⟩ = false) ∧ JAt (w1.setCell ⟨j, 3, none⟩ (.slice (some ⟨g, 0, none⟩) (parts.length + 1) cap)) j d B va (.slice (some ⟨g, 0, none⟩) (parts.length + 1) cap) f all (parts ++ [p]) sz ∧ Turn (fun k => k = j ∨ B ≤ k) w (w1.setCell ⟨j, 3, none⟩ (.slice (some ⟨g, 0, none⟩) (parts.length + 1) cap)) := by
  have hlt : j < w.heap.size := Nat.lt_of_lt_of_le h.jB h.sB
  have hT : Turn (fun k => vp.ownBlock = some k) w w1 := ((Turn.refl (fun k => vp.ownBlock = some k) w).alloc o).grown hg (fun k hk => hk)
  have hj : ¬ vp.ownBlock = some j := fun e => by have := (h.op.lt j e).1; have := h.jB; omega
  have h2 := hT.cell h.c3 hj
  have ho' : w1.ownsRow B 191 2 (.slice (some ⟨g, 0, none⟩) (parts.length + 1) cap) (parts ++ [p]).length (partCells (parts ++ [p])) := by rw [List.length_append, partCells_snoc]; exact ho
  have cc : ∀ k v, k ≠ 3 → w.cell? ⟨j, k, none⟩ = some v → (w1.setCell ⟨j, 3, none⟩ (.slice (some ⟨g, 0, none⟩) (parts.length + 1) cap)).cell? ⟨j, k, none⟩ = some v := fun k v hk hc => (World.cell?_setCell_other _ _ _ _ (by simp)).trans (hT.cell hc hj)
  have ff : ∀ k, w.frozen? ⟨j, k, none⟩ = false → (w1.setCell ⟨j, 3, none⟩ (.slice (some ⟨g, 0, none⟩) (parts.length + 1) cap)).frozen? ⟨j, k, none⟩ = false := fun k hk => (World.frozen?_setCell _ _ _ _).trans ((hT.frozen (p := ⟨j, k, none⟩) hlt hj).trans hk)
  refine ⟨⟨h2, (hT.frozen (p := ⟨j, 3, none⟩) hlt hj).trans h.z3⟩, ⟨cc 0 _ (by decide) h.c0, cc 1 _ (by decide) h.c1, cc 2 _ (by decide) h.c2, World.cell?_setCell_same _ _ _ h2, cc 4 _ (by decide) h.c4, cc 5 _ (by decide) h.c5, ff 2 h.z2, ff 3 h.z3, ff 4 h.z4, own_setCell (hT.owns h.oa (fun k hk e => h.sep k hk e)) h.jB _ _, own_setCell ho' h.jB _ _, ?_, h.jB, ?_⟩, ?_⟩
  · intro k h1 h2
    have h2' : g = k := by simpa [Value.ownBlock] using h2
    rcases hat with e | e
    · exact h.sep k h1 (by rw [e, h2'])
    · have := (h.oa.lt k h1).2
      omega
  · have := h.sB; have := hT.size; simp; omega
  · exact (hT.mono (fun k _ hk => .inr (h.op.lt k hk).1)).setCell (p := ⟨j, 3, none⟩) (.inl rfl) _
theorem JAt.setParts' {w w1 : World} {j d B g cap H a b : Nat} {va vp : Value} {f : ByteArray} {all : List UInt8} {parts : List (Nat × Nat)} {sz : Nat} (h : JAt w j d B va vp f all parts sz) (o : Obj) (hg : (w.alloc o).drew.grownBy w1 vp.ownBlock)
    (ho : w1.ownsRow B 191 2 (.slice (some ⟨g, 0, none⟩) (parts.length + 1) cap) (parts.length + 1) (partCells parts ++ [.int .i64 (a : Int), .int .i64 ((a : Int) + (b : Int))])) (hat : vp.ownBlock = some g ∨ g = H) (hH : w.heap.size ≤ H) :
    (w1.cell? ⟨j, 3, none⟩ = some vp ∧ w1.frozen? ⟨j, 3, none⟩ = false) ∧ JAt (w1.setCell ⟨j, 3, none⟩ (.slice (some ⟨g, 0, none⟩) (parts.length + 1) cap)) j d B va (.slice (some ⟨g, 0, none⟩) (parts.length + 1) cap) f all (parts ++ [(a, a + b)]) sz ∧ Turn (fun k => k = j ∨ B ≤ k) w (w1.setCell ⟨j, 3, none⟩ (.slice (some ⟨g, 0, none⟩) (parts.length + 1) cap)) :=
  h.setParts (p := (a, a + b)) o ⟨hg.os, hg.tape, hg.output, hg.size, hg.block⟩ (by rw [show (((a, a + b) : Nat × Nat).2 : Int) = (a : Int) + (b : Int) from by simp]; exact ho) hat hH
theorem JAt.setSize {w : World} {j d B : Nat} {va vp : Value} {f : ByteArray} {all : List UInt8} {parts : List (Nat × Nat)} {sz : Nat} (h : JAt w j d B va vp f all parts sz) (sz' : Nat) :
    JAt (w.setCell ⟨j, 4, none⟩ (.int .i64 sz')) j d B va vp f all parts sz' := by
  have cc : ∀ k v, k ≠ 4 → w.cell? ⟨j, k, none⟩ = some v → (w.setCell ⟨j, 4, none⟩ (.int .i64 sz')).cell? ⟨j, k, none⟩ = some v := fun k v hk hc => (World.cell?_setCell_other _ _ _ _ (by simp)).trans hc
  have ff : ∀ k, w.frozen? ⟨j, k, none⟩ = false → (w.setCell ⟨j, 4, none⟩ (.int .i64 sz')).frozen? ⟨j, k, none⟩ = false := fun k hk => (World.frozen?_setCell _ _ _ _).trans hk
  exact ⟨cc 0 _ (by decide) h.c0, cc 1 _ (by decide) h.c1, cc 2 _ (by decide) h.c2, cc 3 _ (by decide) h.c3, World.cell?_setCell_same _ _ _ h.c4, cc 5 _ (by decide) h.c5, ff 2 h.z2, ff 3 h.z3, ff 4 h.z4, own_setCell h.oa h.jB _ _, own_setCell h.op h.jB _ _, h.sep, h.jB, by simpa using h.sB⟩

set_option maxRecDepth 1000000 in
set_option maxHeartbeats 8000000 in
theorem add_any (j d B : Nat) (va vp : Value) (f : ByteArray) (all l : List UInt8) (parts : List (Nat × Nat)) (sz n : Nat) (ab ao : Nat) (c : Nat) (w : World) (h : JAt w j d B va vp f all parts sz)
    (hl : ∀ i x, l[i]? = some x → w.cell? ⟨ab, ao + i, none⟩ = some (.int .u8 (x.toNat : Int))) (h1 : all.length + l.length ≤ 1000000) (h2 : parts.length ≤ 1000000) (h3 : sz + n ≤ 1000000) :
    Calls Tryz.prog 51 #[.pointer (some ⟨j, 0, none⟩), .slice (some ⟨ab, ao, none⟩) l.length c, .int .i64 n] w fun e w' => e = .returned (.tuple #[]) ∧ Turn (fun k => k = j ∨ B ≤ k) w w' ∧ ∃ va' vp', JAt w' j d B va' vp' f (all ++ l) (parts ++ [(all.length, all.length + l.length)]) (sz + n) := by
  have mixed : Tryz.prog.follows .mixedOrders = true := by kernel_rfl
  have t22 : Tryz.prog.underlying 22 = some (.slice 5) := by kernel_rfl
  have t118 : Tryz.prog.underlying 118 = some (.slice 191) := by kernel_rfl
  have i5 : (Tryz.prog.info? 5).map (fun i => (i.zero, i.size, i.bytes)) = some (some (Value.int IntKind.u8 0), 1, 1) := by kernel_rfl
  have i191 : (Tryz.prog.info? 191).map (fun i => (i.zero, i.size, i.bytes)) = some (some (.agg #[.int .i64 0, .int .i64 0]), 2, 16) := by kernel_rfl
  obtain ⟨i0, hi, hz0, hz1, hz2⟩ := info_parts i5
  obtain ⟨i1, ki, kz0, kz1, kz2⟩ := info_parts i191
  obtain ⟨a1, q1, rfl⟩ := slice_of_owns h.oa
  obtain ⟨a2, q2, rfl⟩ := slice_of_owns h.op
  have H := Hid.mk' h
  have HL := Hid.mk' hl
  have c2 := h.c2
  have c3 := h.c3
  have c4 := h.c4
  have z2 := h.z2
  have z3 := h.z3
  have z4 := h.z4
  have hnews : Hid (∀ j u, (u8s l)[j]? = some u → w.cell? ((⟨ab, ao, none⟩ : Addr).add j) = some u) := fun k u hu => by
    rw [u8s, List.getElem?_map] at hu
    rw [Addr.add_lit]
    cases hx : l[k]? with
    | none => rw [hx] at hu; cases hu
    | some x => rw [hx] at hu; rw [HL.out k x hx]; exact hu
  have h1c : Hid (∀ u ∈ u8s l, u.oneCell' = true) := fun u hu => by obtain ⟨x, _, rfl⟩ := List.mem_map.1 hu; rfl
  clear h hl
  go_enter Tryz.func51, Tryz.ntmps51
  go_wp2_with (at_builtin; refine wpList_append_own_at _ rfl _ _ 22 rfl B 5 i0 (.int .u8 0) 1 1 t22 hi hz0 hz1 hz2 rfl (by decide) _ _ _ rfl H.out.oa ⟨ab, ao, none⟩ l.length c (u8s l) rfl (by rw [u8s_len]; omega) hnews.out h1c.out (by unfold maxLen; omega) (by omega) H.out.sB ?_; intro v' w1 hown1 hgrow1 hnil1 hat1; have HJ := Hid.mk' (H.out.setAll hgrow1 hown1 hat1); obtain ⟨a3, q3, rfl⟩ := slice_of_owns hown1; have w1c := HJ.out.1.1; have w1f := HJ.out.1.2; clear hgrow1 hown1 hnil1 hat1)
  generalize hW2 : w1.setCell ⟨j, 2, none⟩ (.slice a3 (all.length + l.length) q3) = w2 at HJ
  obtain ⟨_, J2, T2⟩ := HJ.out
  clear HJ hW2 w1c w1f H HL hnews h1c c2 c3 c4 z2 z3 z4
  have JA : Hid (∀ o, JAt (w2.alloc o).drew j d B (.slice a3 (all.length + l.length) q3) (.slice a2 parts.length q2) f (all ++ l) parts sz) := fun o => J2.turn (S := fun _ => False) ((Turn.refl _ _).alloc o).drew id (fun _ _ => id) (fun _ _ => id)
  have JH := Hid.mk' J2
  have TH := Hid.mk' T2
  have c2 := J2.c2
  have c3 := J2.c3
  have c2a : ∀ o, (w2.alloc o).cell? ⟨j, 2, none⟩ = some (.slice a3 (all.length + l.length) q3) := fun o => (J2.alloc o).c2
  have c3a : ∀ o, (w2.alloc o).cell? ⟨j, 3, none⟩ = some (.slice a2 parts.length q2) := fun o => (J2.alloc o).c3
  clear J2 T2
  go_region_law (first
    | (refine step_append_lies _ rfl (.tmp 25) (.tmp 33) 118 rfl B 191 i1 (.agg #[.int .i64 0, .int .i64 0]) 2 16 t118 ki kz0 kz1 kz2 rfl (by decide) (.slice a2 parts.length q2) parts.length (partCells parts) (by simp [Act.eval]) (JA.out _).op ⟨w2.heap.size, 0, none⟩ 1 1 [.int .i64 all.length, .int .i64 (all.length + l.length)] (by simp [Act.eval]) rfl (World.news_of_block (World.alloc_last w2 _)) (by intro u hu; simp at hu; rcases hu with rfl | rfl <;> rfl) (by decide) (by unfold maxLen; omega) (by omega) (JA.out _).sB _ rfl ?_
       intro g cap w10 hown10 hgrow10 hat10 hlt10
       have HD := Hid.mk' (JAt.setParts' JH.out _ hgrow10 hown10 hat10 (by simp))
       have htc10 := HD.out.1.1
       have htf10 := HD.out.1.2))
  all_goals
    generalize hW3 : w10.setCell ⟨j, 3, none⟩ (.slice (some ⟨g, 0, none⟩) (parts.length + 1) cap) = w3 at HD ⊢
    obtain ⟨_, J3, T3⟩ := HD.out
    clear HD hW3 htc10 htf10 JA JH c2 c3 c2a c3a hown10 hgrow10 hat10 hlt10
    have c4 := J3.c4
    have z4 := J3.z4
    have J4 := Hid.mk' (J3.setSize (sz + n))
    have T4 := Hid.mk' ((TH.out.trans T3).setCell (p := ⟨j, 4, none⟩) (.inl rfl) (.int .i64 ((sz + n : Nat) : Int)))
    clear J3 T3 TH
    have hw : wrap64 ((sz : Int) + (n : Int)) = ((sz + n : Nat) : Int) := by simp only [wrap64]; omega
    have hw2 : IntKind.i64.wrap ((sz : Int) + (n : Int)) = ((sz + n : Nat) : Int) := by rw [IntKind.wrap_i64]; omega
    go_wp2_with (fail)
    have hcast : ((sz + n : Nat) : Int) = (sz : Int) + (n : Int) := by simp
    have J5 := J4.out
    have T5 := T4.out
    rw [hcast] at J5 T5
    exact bodyPost_end (results_none rfl _ _ _) rfl ⟨rfl, T5, _, _, J5⟩
end Go.Proofs

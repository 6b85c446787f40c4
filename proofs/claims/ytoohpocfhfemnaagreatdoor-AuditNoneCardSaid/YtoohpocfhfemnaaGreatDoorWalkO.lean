/- A part of the proof of AuditNone: the runs of the document's example and of the law's body, and facts of the row. Conditions: none. -/
import Derived.Test.YtoohpocfhfemnaaGreatDoorWalkN
import Derived.Maps.OwnSet
import Derived.Maps.OwnIn
namespace Go.Proofs
open Go.Shelf Go.RowKit Go.Lib
variable {I S : Nat → Prop}

/-- A store: its ids. -/
structure StAt (w : World) (s j mp B : Nat) (vi : Value) (ids : List Int) : Prop where
  c0 : w.cell? ⟨s, 0, none⟩ = some (.pointer (some ⟨j, 0, none⟩))
  c1 : w.cell? ⟨s, 1, none⟩ = some (.map (some mp))
  c2 : w.cell? ⟨s, 2, none⟩ = some vi
  z2 : w.frozen? ⟨s, 2, none⟩ = false
  om : ∃ D : DataW Unit, w.ownsMap Tryz.prog 48 (plainElem Tryz.prog 3) mp ids.length D ∧ Maps.IsMap D ∧ ∀ y, Maps.has D (.int .u64 y) = ids.contains y
  oi : w.ownsRow B 48 1 vi ids.length (ids.map (Value.int .u64))
  sB : s < B
  mB : mp < B
  sm : s ≠ mp
  BB : B ≤ w.heap.size

theorem Turn.map {w w' : World} (h : Turn S w w') {H : Type} {P : Program} {k : TypeId} {R : Value → Option (DataW H × List MemPlace)} {b n : Nat} {D : DataW H} (ho : w.ownsMap P k R b n D) (hb : ¬ S b) : w'.ownsMap P k R b n D := by
  have hlt := ho.lt
  obtain ⟨es, clock, h1, h2⟩ := ho
  exact ⟨es, clock, (h.block b hlt hb).trans h1, h2⟩
theorem StAt.turn {w w' : World} {s j mp B : Nat} {vi : Value} {ids : List Int} (h : StAt w s j mp B vi ids) (t : Turn S w w') (hs : ¬ S s) (hm : ¬ S mp) (hi : ∀ k, vi.ownBlock = some k → ¬ S k) : StAt w' s j mp B vi ids := by
  obtain ⟨D, h1, h2, h3⟩ := h.om
  have hlt : s < w.heap.size := Nat.lt_of_lt_of_le h.sB h.BB
  exact ⟨t.cell h.c0 hs, t.cell h.c1 hs, t.cell h.c2 hs, (t.frozen hlt hs).trans h.z2, ⟨D, t.map h1 hm, h2, h3⟩, t.owns h.oi hi, h.sB, h.mB, h.sm, Nat.le_trans h.BB t.size⟩

set_option maxRecDepth 1000000 in
theorem u48 : Tryz.prog.underlying 48 = some (.int .u64) := by kernel_rfl
set_option maxRecDepth 1000000 in
theorem u3 : Tryz.prog.underlying 3 = some (.int .i64) := by kernel_rfl
set_option maxRecDepth 1000000 in
theorem u66 : Tryz.prog.underlying 66 = some (.map 48 3) := by kernel_rfl
set_option maxRecDepth 1000000 in
theorem z3 (w : World) : (zeroValue 3).run Tryz.prog w = .ok (.int .i64 0) w := by kernel_rfl

theorem has_ids {ids : List Int} (id : Int) {D : DataW Unit} {d : DataW Unit} (hD : ∀ y, Maps.has D (.int .u64 y) = ids.contains y) (hM : Maps.IsMap D) :
    (∀ y, Maps.has (D.put (.int .u64 id) d) (.int .u64 y) = (ids ++ [id]).contains y) ∧ Maps.IsMap (D.put (.int .u64 id) d) := by
  refine ⟨fun y => ?_, ?_⟩
  · by_cases e : y = id
    · subst e
      rw [Maps.has_put_same (k := .int .u64 y) hM (show WideAt.IsKeyLit (.int .u64 y) from trivial) d]
      simp
    · have hne : (Lit.int .u64 y) ≠ (Lit.int .u64 id) := fun x => e (by cases x; rfl)
      rw [Maps.has_put_other hne d, hD y]
      simp [e]
  · obtain ⟨es, rfl⟩ := hM
    exact ⟨_, DataW.put_eq _ _ _⟩

set_option maxRecDepth 1000000 in
set_option maxHeartbeats 8000000 in
theorem note_any (s j mp B : Nat) (vi : Value) (ids : List Int) (id : Int) (k : Nat) (w : World) (h : StAt w s j mp B vi ids) (hid : 0 ≤ id ∧ id < 18446744073709551616) (hk : k ≤ 1000000) (hl : ids.length ≤ 1000000) :
    Calls Tryz.prog 25 #[.pointer (some ⟨s, 0, none⟩), .int .u64 id, .int .i64 k] w fun e w' => e = .returned (.tuple #[]) ∧ Turn (fun k => k = s ∨ k = mp ∨ B ≤ k) w w' ∧ ∃ vi', StAt w' s j mp B vi' (ids ++ [id]) := by
  have t67 : Tryz.prog.underlying 67 = some (.slice 48) := by kernel_rfl
  have i48 : (Tryz.prog.info? 48).map (fun i => (i.zero, i.size, i.bytes)) = some (some (.int .u64 0), 1, 8) := by kernel_rfl
  obtain ⟨i0, hi, hz0, hz1, hz2⟩ := info_parts i48
  obtain ⟨D, om, hM, hD⟩ := h.om
  have hkey := Maps.keyOf_int_mk (P := Tryz.prog) u48 (WalkArith.wf_u64 (n := id) (by omega))
  obtain ⟨w1, hrun, om1, hg1⟩ := om.update (Maps.int_keyed u48) u66 (by unfold maxLen; omega) hkey (plainElem_int (H := Unit) u3 (WalkArith.wf_i64 (n := (k : Int)) (by omega)))
  obtain ⟨hD1, hM1⟩ := has_ids (d := .lit (.int .i64 (k : Int))) id hD hM
  have hT1 : Turn (fun x => x = mp) w w1 := (Turn.refl (fun x => x = mp) w).grown hg1 (fun k hk => by cases hk; rfl)
  have hsm := h.sm
  have hmi : ∀ k, vi.ownBlock = some k → ¬ k = mp := fun k hk e => by have := (h.oi.lt k hk).1; have := h.mB; omega
  have hsi : ∀ k, vi.ownBlock = some k → ¬ k = s := fun k hk e => by have := (h.oi.lt k hk).1; have := h.sB; omega
  have c1 := h.c1
  have d2 := hT1.cell h.c2 hsm
  have oi1 := hT1.owns h.oi hmi
  have hlt : s < w.heap.size := Nat.lt_of_lt_of_le h.sB h.BB
  have f2 := (hT1.frozen (p := ⟨s, 2, none⟩) hlt hsm).trans h.z2
  have H := Hid.mk' h
  have HT1 := Hid.mk' hT1
  have HO := Hid.mk' oi1
  have HB : Hid (B ≤ w1.heap.size) := Nat.le_trans h.BB hT1.size
  have HM := Hid.mk' (And.intro om1 (And.intro hM1 hD1))
  have e0 := hT1.cell h.c0 hsm
  have e1 := hT1.cell h.c1 hsm
  have HE := Hid.mk' (And.intro e0 e1)
  have HC : Hid ((∀ o, (w1.alloc o).cell? ⟨s, 2, none⟩ = some vi) ∧ (∀ o, (w1.alloc o).frozen? ⟨s, 2, none⟩ = false) ∧ s < w1.heap.size) := ⟨fun o => Lib.cell?_alloc_some _ d2, fun o => (((Turn.refl (fun _ => False) w1).alloc o).frozen (p := ⟨s, 2, none⟩) (Nat.lt_of_lt_of_le hlt hT1.size) (fun x => x)).trans f2, Nat.lt_of_lt_of_le hlt hT1.size⟩
  obtain ⟨ai, ci, hvi⟩ := slice_of_owns h.oi
  clear h om hM hD om1 hM1 hD1 hT1 oi1 hg1 hkey e0 hlt f2
  subst hvi
  go_enter Tryz.func25, Tryz.ntmps25
  go_wp2_with (at_builtin; refine wpList_append_lies _ rfl _ _ 67 rfl B 48 i0 (.int .u64 0) 1 8 t67 hi hz0 hz1 hz2 rfl (by decide) (.slice ai ids.length ci) ids.length (ids.map (Value.int .u64)) rfl (HO.out.alloc _) ⟨w1.heap.size, 0, none⟩ 1 1 [.int .u64 id] rfl rfl (World.news_of_block (World.alloc_last w1 _)) (by intro u hu; simp at hu; rcases hu with rfl; rfl) (by decide) (by unfold maxLen; omega) (by omega) (by have := HB.out; rw [World.size_alloc]; omega) _ rfl ?_; intro g cap w10 hown10 hgrow10 hat10 hlt10; have htc10 : w10.cell? ⟨s, 2, none⟩ = some (.slice ai ids.length ci) := hgrow10.cell (HC.out.1 _) (fun e => hsi s e.symm rfl); have htf10 : w10.frozen? ⟨s, 2, none⟩ = false := (World.frozen?_of_block (hgrow10.block s (by have := HC.out.2.2; rw [World.size_alloc]; omega) (fun e => hsi s e.symm rfl))).trans (HC.out.2.1 _); have HG := Hid.mk' (And.intro hown10 (And.intro hgrow10 (And.intro hat10 hlt10))); clear hown10 hgrow10 hat10 hlt10)
  obtain ⟨hown10, hgrow10, hat10, hlt10⟩ := HG.out
  obtain ⟨om1, hM1, hD1⟩ := HM.out
  obtain ⟨e0, e1⟩ := HE.out
  have h := H.out
  have hT2 : Turn (fun k => (Value.slice ai ids.length ci).ownBlock = some k) w1 w10 := ((Turn.refl (fun k => (Value.slice ai ids.length ci).ownBlock = some k) w1).alloc _).grown hgrow10 (fun k hk => hk)
  have hB : ∀ k, (Value.slice ai ids.length ci).ownBlock = some k → B ≤ k := fun k hk => (h.oi.lt k hk).1
  have hs10 : ¬ (Value.slice ai ids.length ci).ownBlock = some s := fun e => by have := hB s e; have := h.sB; omega
  have hm10 : ¬ (Value.slice ai ids.length ci).ownBlock = some mp := fun e => by have := hB mp e; have := h.mB; omega
  have hT3 : Turn (fun k => k = s ∨ k = mp ∨ B ≤ k) w (w10.setCell ⟨s, 2, none⟩ (.slice (some ⟨g, 0, none⟩) (ids.length + 1) cap)) :=
    ((HT1.out.mono (fun k _ e => .inr (.inl e))).trans (hT2.mono (fun k _ e => .inr (.inr (hB k e))))).setCell (p := ⟨s, 2, none⟩) (.inl rfl) _
  have hT4 : Turn (fun k => k = s) w10 (w10.setCell ⟨s, 2, none⟩ (.slice (some ⟨g, 0, none⟩) (ids.length + 1) cap)) := (Turn.refl (fun k => k = s) w10).setCell (p := ⟨s, 2, none⟩) rfl _
  have hg := (hown10.lt g rfl).1
  have hsB := h.sB
  clear HG HM HE H
  go_end0
  refine ⟨rfl, hT3, _, ⟨(World.cell?_setCell_other _ _ _ _ (by simp)).trans (hT2.cell e0 hs10), (World.cell?_setCell_other _ _ _ _ (by simp)).trans (hT2.cell e1 hs10), World.cell?_setCell_same _ _ _ htc10, (World.frozen?_setCell _ _ _ _).trans htf10, ⟨_, ?_, hM1, hD1⟩, ?_, h.sB, h.mB, h.sm, Nat.le_trans h.BB hT3.size⟩⟩
  · rw [List.length_append]
    exact hT4.map (hT2.map om1 hm10) (Ne.symm h.sm)
  · rw [List.length_append, List.map_append]
    exact hT4.owns hown10 (fun k hk e => absurd (show g = k by simpa [Value.ownBlock] using hk) (by omega))
end Go.Proofs

namespace Go.Proofs
open Go.Shelf Go.RowKit Go.Lib
variable {I S : Nat → Prop}
attribute [local go_sem] Oper.semAt_some

/-- Are these bytes an object? -/
def decOk (l : List UInt8) : Bool :=
  if (byteF l 0).1 = 98 then !decide (4096 < (l.drop 1).length) else if (byteF l 0).1 = 116 then treeOk (l.drop 1) else if (byteF l 0).1 = 99 then commitOk (l.drop 1) else false
theorem decode_any (r0 : Nat) (l : List UInt8) (v : Value) (w : World) (h : BytesOff w r0 I v l) (h0 : 0 < w.heap.size) (hl : l.length ≤ 1000000) :
    Calls Tryz.prog 24 #[v] w fun e w' => (∃ x, e = .returned (.tuple #[x, .int .i64 (if decOk l = true then 0 else 8)])) ∧ Below w.heap.size w w' := by
  unfold decOk
  by_cases h1 : (byteF l 0).1 = 98
  · rw [if_pos h1]
    refine (dec_blob r0 l v w h h0 (by omega) h1).mono ?_
    rintro e w' ⟨⟨x, rfl⟩, hb⟩
    refine ⟨⟨x, ?_⟩, hb⟩
    by_cases h4 : 4096 < (l.drop 1).length
    · rw [if_pos h4, if_neg (by rw [decide_eq_true h4]; decide)]
    · rw [if_neg h4, if_pos (by rw [decide_eq_false h4]; decide)]
  · rw [if_neg h1]
    by_cases h2 : (byteF l 0).1 = 116
    · rw [if_pos h2]
      exact dec_tree r0 l v w h h0 hl h2
    · rw [if_neg h2]
      by_cases h3 : (byteF l 0).1 = 99
      · rw [if_pos h3]
        exact dec_commit r0 l v w h h0 hl h3
      · rw [if_neg h3]
        exact dec_none r0 l v w h h0 (by omega) h1 h2 h3

def idF (l : List UInt8) : Int := max (hashD l) 1
/-- The ids of records: none: one is no object, or there twice. -/
def scanF : List (List UInt8) → List Int → Option (List Int)
  | [], ids => some ids
  | x :: rs, ids => if decOk x = false ∨ ids.contains (idF x) = true then none else scanF rs (ids ++ [idF x])
/-- What the store of these bytes answers. -/
def openF (l : List UInt8) : Int :=
  match recsL (l.length + 1) l [] 0 with
  | none => 8
  | some (rs, _) => match scanF rs [] with
    | none => 8
    | some ids => if 65536 < ids.length then 3 else 0

theorem fold_range : ∀ (l : List UInt8) (h : Int), (0 ≤ h ∧ h < 18446744073709551616) → 0 ≤ l.foldl hstep h ∧ l.foldl hstep h < 18446744073709551616
  | [], _, hh => hh
  | x :: l, h, _ => fold_range l (hstep h x) (wrap_u64_range _)
theorem hashD_range (l : List UInt8) : 0 ≤ hashD l ∧ hashD l < 18446744073709551616 := fold_range l _ (by constructor <;> omega)
theorem idF_range (l : List UInt8) : 0 ≤ idF l ∧ idF l < 18446744073709551616 := by
  have := hashD_range l
  unfold idF
  omega

set_option maxRecDepth 1000000 in
theorem each_any (j : Nat) (w : World) : Calls Tryz.prog 22 #[.pointer (some ⟨j, 0, none⟩)] w fun e w' => e = .returned (.func (.func 53) #[] #[.pointer (some ⟨w.heap.size, 0, none⟩)]) ∧ w' = w.alloc (.cells #[.pointer (some ⟨j, 0, none⟩)] 63) := by
  go_enter Tryz.func22, Tryz.ntmps22
  go_wp2
  go_ret
  exact ⟨rfl, rfl⟩
end Go.Proofs

namespace Go.Proofs
open Go.Shelf Go.RowKit Go.Lib
variable {I0 S : Nat → Prop}

/-- How a round's body may be left: on; or by a return. L, D: the loop's two blocks. -/
def rndPost (L D : Nat) (I : Nat → World → Prop) (Ix : World → Prop) (k : Nat) (W : World) : Exit → Act → World → Prop
  | .normal, _, W' => (W'.heap[L]? = W.heap[L]? ∧ W'.heap[D]? = W.heap[D]?) ∧ I (k + 1) W'
  | .ret, _, W' => (W'.heap[L]? = W.heap[L]? ∧ W'.heap[D]? = W.heap[D]?) ∧ Ix W'
  | _, _, _ => False

theorem putObj_turn (W : World) (l : Nat) (o : Obj) : Turn (fun x => x = l) W (W.putObj l o) :=
  (Turn.refl (fun x => x = l) W).grown (grownBy_putObj' W l o) (fun k hk => by cases hk; rfl)

set_option maxHeartbeats 1000000 in
/-- A loop over a journal's records. -/
theorem range_law {g : Operand} {ps : Array Tmp} {assign body : Code} {Q : Exit → Act → World → Prop} {a : Act} {w : World} {n : Nat} {j d B Bx : Nat} {va vp : Value} {f : ByteArray} {rs : List (List UInt8)} {sz : Nat}
    (hg : a.eval g = .func (.func 53) #[] #[.pointer (some ⟨Bx, 0, none⟩)]) (hps : ps.size = 2) (hl : rs.flatten.length ≤ 1000000) (hr : rs.length ≤ 1000000) (I : Nat → World → Prop) (Ix : World → Prop)
    (hIat : ∀ k W, I k W → JAt W j d B va vp f rs.flatten (partsOf rs 0) sz ∧ W.cell? ⟨Bx, 0, none⟩ = some (.pointer (some ⟨j, 0, none⟩)))
    (hIst : ∀ k A A', I k A → Turn (fun x => x = w.heap.size + 1) A A' → I k A') (hXst : ∀ A A', Ix A → Turn (fun x => x = w.heap.size + 1) A A' → Ix A')
    (h0 : ∀ r, I 0 ((w.alloc (.deferred (some []))).alloc (.loop r))) (a₁ : Nat → Value → Act)
    (hassign : ∀ (k : Nat) (v : Value) (W : World) (K : Act → World → Prop), K (a₁ k v) W →
      assign.wpIn (Fence.wide.inRound (w.heap.size + 1)) (n - 1 - 1) Tryz.prog (Exit.then K (fun _ _ _ => False)) { tmps := (ps.zip #[.int .i64 (k : Int), v]).foldl (fun t (p, v) => t.setIfInBounds p v) a.tmps, defers := [] } W)
    (hbody : ∀ (k : Nat) (v : Value) (x : List UInt8) (W : World), I k W → rs[k]? = some x → BytesOff W 0 (fun _ => True) v x → w.heap.size + 1 < W.heap.size →
      body.wpIn (Fence.wide.inRound (w.heap.size + 1)) (n - 1 - 1) Tryz.prog (rndPost (w.heap.size + 1) w.heap.size I Ix k W) (a₁ k v) W)
    (hdone : ∀ W, I rs.length W → W.heap[w.heap.size]? = some (.deferred (some [])) → Q .normal { a with defers := { target := .collected w.heap.size, args := #[] } :: a.defers } W)
    (hstop : ∀ W, Ix W → W.heap[w.heap.size]? = some (.deferred (some [])) → Code.ret.wpIn Fence.wide n Tryz.prog Q { a with defers := { target := .collected w.heap.size, args := #[] } :: a.defers } W) :
    (Code.rangeFunc g ps assign body).wpIn Fence.wide n Tryz.prog Q a w := by
  refine wpIn_rangeFunc ?_
  intro fn hfn
  obtain ⟨rec, hrec⟩ : ∃ rec : LoopState → Option Code → Loop, rec = fun st pe => { state := st, pending := pe, fn, tmps := a.tmps, params := ps, assign, body, defers := w.heap.size } := ⟨_, rfl⟩
  obtain ⟨W1, hW1⟩ : ∃ W1, (w.alloc (.deferred (some []))).alloc (.loop (rec .ready none)) = W1 := ⟨_, rfl⟩
  have hL1 : W1.heap[w.heap.size + 1]? = some (.loop (rec .ready none)) := by
    rw [← hW1]
    have := World.alloc_last (w.alloc (.deferred (some []))) (.loop (rec .ready none))
    rwa [World.size_alloc] at this
  have hD1 : W1.heap[w.heap.size]? = some (.deferred (some [])) := by
    rw [← hW1]
    exact (Below.heap_alloc _ _ _ (by simp)).trans (World.alloc_last w _)
  have hI1 : I 0 W1 := by rw [← hW1]; exact h0 _
  refine ⟨w.heap.size + 1, [{ target := .collected w.heap.size, args := #[] }], W1, { target := .fn (.func 53) #[.pointer (some ⟨Bx, 0, none⟩)], args := #[.func (.yield (w.heap.size + 1)) #[] #[]] }, W1, 53,
    #[.func (.yield (w.heap.size + 1)) #[] #[], .pointer (some ⟨Bx, 0, none⟩)], W1, ?_, ?_, ?_, ?_, fun h => absurd h (by decide), ?_⟩
  · rw [← hW1, hrec]
    exact run_enterLoop_outer _ _ _ _ _
  · simp only [resolve, hg]
    simp [go_sem]
  · intro f' _
    trivial
  · have he : ∀ args w, (callFunc 53 args).run Tryz.prog w = .ok (.enter 53 args) w := enters_of Tryz.func53 (by kernel_rfl) rfl
    simp [invoke, go_sem, he]
  · refine (each1_any (n - 1) (w.heap.size + 1) j d B Bx va vp f rs sz hl hr
      (fun k W => I k W ∧ W.heap[w.heap.size + 1]? = some (.loop (rec .ready none)) ∧ W.heap[w.heap.size]? = some (.deferred (some [])))
      (fun W => Ix W ∧ W.heap[w.heap.size + 1]? = some (.loop (rec .done (some .ret))) ∧ W.heap[w.heap.size]? = some (.deferred (some [])))
      (fun k W h => hIat k W h.1) ?_ ?_ W1 ⟨hI1, hL1, hD1⟩).mono ?_
    · rintro k A A' ⟨h1, h2, h3⟩ hb
      have ha := (Array.getElem?_eq_some_iff.1 h2).1
      exact ⟨hIst k A A' h1 (.below hb fun x hx hx2 => by omega), (hb.block _ ha).trans h2, (hb.block _ (by omega)).trans h3⟩
    · rintro k v x W ⟨hi, hl, hd⟩ hx hbv
      have hlt : w.heap.size + 1 < W.heap.size := (Array.getElem?_eq_some_iff.1 hl).1
      have hy := run_yield (P := Tryz.prog) (args := #[.int .i64 (k : Int), v]) hl (by rw [hrec]; exact hps.symm)
      rw [hrec] at hy
      refine ⟨fn, _, assign, body, hy, roundIn_of_wpIn hfn (hassign k v W _ ⟨_, run_beginRound hl (by rw [hrec]), ?_⟩)⟩
      have t2 := putObj_turn W (w.heap.size + 1) (.loop { rec .ready none with state := .busy })
      have hl2 : (W.putObj (w.heap.size + 1) (.loop { rec .ready none with state := .busy })).heap[w.heap.size + 1]? = some (.loop { rec .ready none with state := .busy }) := World.putObj_heap_same hlt
      have hd2 : (W.putObj (w.heap.size + 1) (.loop { rec .ready none with state := .busy })).heap[w.heap.size]? = some (.deferred (some [])) := (World.putObj_heap_other (by omega)).trans hd
      have hb2 : BytesOff (W.putObj (w.heap.size + 1) (.loop { rec .ready none with state := .busy })) 0 (fun _ => True) v x := by
        rcases hbv with ⟨b, o, c, h1, h2, h3, h4, h5, h6⟩ | h
        · by_cases hx0 : x = []
          · subst hx0
            exact .inl ⟨b, o, c, h1, h2, h3, ⟨trivial, Nat.lt_of_lt_of_le h4.2 t2.size⟩, h5, fun i y hy => by simp at hy⟩
          · refine .inl ⟨b, o, c, h1, h2, h3, ⟨trivial, Nat.lt_of_lt_of_le h4.2 t2.size⟩, h5, fun i y hy => t2.cell (h6 i y hy) (fun e => ?_)⟩
            have h7 := h6 i y hy
            have e' : b = w.heap.size + 1 := e
            simp [World.cell?, e', hl] at h7
        · exact .inr h
      have fin : ∀ (jump : Option Code) (W3 : World), W3.heap[w.heap.size + 1]? = (W.putObj (w.heap.size + 1) (.loop { rec .ready none with state := .busy })).heap[w.heap.size + 1]? → W3.heap[w.heap.size]? = (W.putObj (w.heap.size + 1) (.loop { rec .ready none with state := .busy })).heap[w.heap.size]? →
          (Instr.endRound (w.heap.size + 1) jump).run Tryz.prog W3 = .ok (.bool jump.isNone) (W3.putObj (w.heap.size + 1) (.loop (rec (if jump.isNone then .ready else .done) jump))) ∧
          (W3.putObj (w.heap.size + 1) (.loop (rec (if jump.isNone then .ready else .done) jump))).heap[w.heap.size + 1]? = some (.loop (rec (if jump.isNone then .ready else .done) jump)) ∧
          (W3.putObj (w.heap.size + 1) (.loop (rec (if jump.isNone then .ready else .done) jump))).heap[w.heap.size]? = some (.deferred (some [])) := fun jump W3 e1 e2 => by
        have hl3 := e1.trans hl2
        have := run_endRound (P := Tryz.prog) jump hl3
        rw [hrec] at this ⊢
        exact ⟨this, World.putObj_heap_same (Array.getElem?_eq_some_iff.1 hl3).1, (World.putObj_heap_other (by omega)).trans (e2.trans hd2)⟩
      refine wpIn_mono (hbody k v x _ (hIst k _ _ hi t2) hx hb2 (Nat.lt_of_lt_of_le hlt t2.size)) ?_
      rintro e a3 W3 hp
      cases e with
      | normal =>
        obtain ⟨⟨e1, e2⟩, hi3⟩ := hp
        obtain ⟨r1, r2, r3⟩ := fin none W3 e1 e2
        exact ⟨_, _, r1, .inl ⟨rfl, hIst _ _ _ hi3 (putObj_turn _ _ _), r2, r3⟩⟩
      | ret =>
        obtain ⟨⟨e1, e2⟩, hi3⟩ := hp
        obtain ⟨r1, r2, r3⟩ := fin (some .ret) W3 e1 e2
        exact ⟨_, _, r1, .inr ⟨rfl, hXst _ _ hi3 (putObj_turn _ _ _), r2, r3⟩⟩
      | exit id => exact hp.elim
      | goto t => exact hp.elim
      | panic ch => exact hp.elim
      | outgrown => exact hp.elim
    · rintro e W2 ⟨⟨v, rfl⟩, (⟨hi, hl, hd⟩ | ⟨hi, hl, hd⟩)⟩
      · exact ⟨none, _, by have := run_endLoop (P := Tryz.prog) hl (by rw [hrec]; simp); rw [hrec] at this; exact this, hdone _ (hIst _ _ _ hi (putObj_turn _ _ _)) ((World.putObj_heap_other (by omega)).trans hd)⟩
      · exact ⟨some .ret, _, by have := run_endLoop (P := Tryz.prog) hl (by rw [hrec]; simp); rw [hrec] at this; exact this, hstop _ (hXst _ _ hi (putObj_turn _ _ _)) ((World.putObj_heap_other (by omega)).trans hd)⟩
end Go.Proofs

namespace Go.Proofs
open Go.Shelf Go.RowKit Go.Lib
variable {I S : Nat → Prop}
attribute [local go_sem] Oper.semAt_some

theorem recsL_bound : ∀ (f : Nat) (l : List UInt8) (rs : List (List UInt8)) (sz : Nat), rs.flatten.length ≤ sz → rs.length ≤ sz → ∀ rs' sz', recsL f l rs sz = some (rs', sz') → rs'.flatten.length ≤ sz' ∧ rs'.length ≤ sz' ∧ sz' ≤ sz + l.length
  | 0, l, rs, sz, h1, h2, rs', sz', h => by
    simp only [recsL, Option.some.injEq, Prod.mk.injEq] at h
    obtain ⟨rfl, rfl⟩ := h
    exact ⟨h1, h2, by omega⟩
  | f + 1, l, rs, sz, h1, h2, rs', sz', h => by
    rw [recsL] at h
    by_cases c1 : 0 < l.length
    · rw [if_pos c1] at h
      by_cases c2 : (recF l).2.2.2 = 110
      · rw [if_pos c2] at h
        simp only [Option.some.injEq, Prod.mk.injEq] at h
        obtain ⟨rfl, rfl⟩ := h
        exact ⟨h1, h2, by omega⟩
      · rw [if_neg c2] at h
        by_cases c3 : (recF l).2.2.2 ≠ 0 ∨ (recF l).2.1 ≠ hashD (recF l).1
        · rw [if_pos c3] at h
          cases h
        · rw [if_neg c3] at h
          have hz : (recF l).2.2.2 = 0 := by
            by_cases hz : (recF l).2.2.2 = 0
            · exact hz
            · exact absurd (.inl hz) c3
          have hle := recF_left l hz
          have ih := recsL_bound f (recF l).2.2.1 (rs ++ [(recF l).1]) (sz + (l.length - (recF l).2.2.1.length)) (by simp only [List.flatten_append, List.flatten_cons, List.flatten_nil, List.append_nil, List.length_append]; omega) (by simp only [List.length_append, List.length_cons, List.length_nil]; omega) rs' sz' h
          omega
    · rw [if_neg c1] at h
      simp only [Option.some.injEq, Prod.mk.injEq] at h
      obtain ⟨rfl, rfl⟩ := h
      exact ⟨h1, h2, by omega⟩

set_option maxRecDepth 1000000 in
theorem sopen_results {tmps : Array Value} {w : World} {K L : Nat} {p : Option Addr} {e : Int} (h2 : tmps.getD 2 undef = .pointer (some ⟨K, 0, none⟩)) (h3 : tmps.getD 3 undef = .pointer (some ⟨L, 0, none⟩)) (c2 : w.cell? ⟨K, 0, none⟩ = some (.pointer p)) (c3 : w.cell? ⟨L, 0, none⟩ = some (.int .i64 e)) :
    (results Tryz.f9 tmps).run Tryz.prog w = .ok (.tuple #[.pointer p, .int .i64 e]) w := by
  have h2' : tmps[2]?.getD undef = .pointer (some ⟨K, 0, none⟩) := by simpa using h2
  have h3' : tmps[3]?.getD undef = .pointer (some ⟨L, 0, none⟩) := by simpa using h3
  simp [results, Tryz.f9, go_sem, h2', h3', c2, c3, asAddr]

set_option maxRecDepth 1000000 in
set_option maxHeartbeats 16000000 in
theorem sopen_any (d m : Nat) (cnt : Int) (v0 : Value) (l : List UInt8) (w : World) (h : DiskAt w d m (some v0) cnt) (hcnt : 0 ≤ cnt ∧ cnt ≤ 1000000) (hv : BytesOff w d I v0 l) (hl : l.length ≤ 1000000) :
    Calls Tryz.prog 9 #[.pointer (some ⟨d, 0, none⟩)] w fun e w' => Turn (fun k => k = m ∨ k = d) w w' ∧
      (if openF l = 0 then ∃ s j mp B vi ids v' cnt' l', e = .returned (.tuple #[.pointer (some ⟨s, 0, none⟩), .int .i64 0]) ∧ StAt w' s j mp B vi ids ∧ DiskAt w' d m (some v') cnt' ∧ l'.length ≤ l.length ∧ BytesOff w' d (fun _ => True) v' l'
       else e = .returned (.tuple #[.pointer none, .int .i64 (openF l)])) := by
  obtain ⟨PO, hPO⟩ : ∃ PO : Ending → World → Prop, PO = fun e w' => Turn (fun k => k = m ∨ k = d) w w' ∧
      (if openF l = 0 then ∃ s j mp B vi ids v' cnt' l', e = .returned (.tuple #[.pointer (some ⟨s, 0, none⟩), .int .i64 0]) ∧ StAt w' s j mp B vi ids ∧ DiskAt w' d m (some v') cnt' ∧ l'.length ≤ l.length ∧ BytesOff w' d (fun _ => True) v' l'
       else e = .returned (.tuple #[.pointer none, .int .i64 (openF l)])) := ⟨_, rfl⟩
  rw [← hPO]
  have HPO := Hid.mk' hPO
  clear hPO
  refine (callsIn_wide (n := 3)).1 ?_
  refine callsIn_of_wp_marks Tryz.func9 rfl trivial ?_ rfl
  simp only [Tryz.ntmps9, List.size_toArray, List.length_cons, List.length_nil, Nat.reduceAdd, Nat.reduceSub, Array.replicate_succ, Array.replicate_zero, List.push_toArray, List.append_toArray, List.nil_append, List.cons_append]
  gi_wp2_with (fail)
  obtain ⟨K, hK⟩ : ∃ K, K = w.heap.size := ⟨_, rfl⟩
  have hT0 : Turn (fun _ => False) w ((w.alloc (Obj.cells #[Value.pointer none] 35)).alloc (Obj.cells #[Value.int IntKind.i64 0] 25)) := ((Turn.refl _ _).alloc _).alloc _
  have r2 : ((w.alloc (Obj.cells #[Value.pointer none] 35)).alloc (Obj.cells #[Value.int IntKind.i64 0] 25)).cell? ⟨K, 0, none⟩ = some (.pointer none) := by rw [hK]; exact Lib.cell?_alloc_some _ (row_cell _ _ _ 0 _ rfl)
  have r3 : ((w.alloc (Obj.cells #[Value.pointer none] 35)).alloc (Obj.cells #[Value.int IntKind.i64 0] 25)).cell? ⟨K + 1, 0, none⟩ = some (.int .i64 0) := by
    have := row_cell (w.alloc (Obj.cells #[Value.pointer none] 35)) #[Value.int IntKind.i64 0] 25 0 _ rfl
    rw [World.size_alloc] at this
    rw [hK]
    exact this
  have f2 : ((w.alloc (Obj.cells #[Value.pointer none] 35)).alloc (Obj.cells #[Value.int IntKind.i64 0] 25)).frozen? ⟨K, 0, none⟩ = false := by
    rw [hK]
    exact (((Turn.refl (fun _ => False) (w.alloc (Obj.cells #[Value.pointer none] 35))).alloc _).frozen (p := ⟨w.heap.size, 0, none⟩) (by rw [World.size_alloc]; exact Nat.lt_succ_self _) id).trans (World.frozen?_alloc_at _ _ _ _ rfl)
  have f3 : ((w.alloc (Obj.cells #[Value.pointer none] 35)).alloc (Obj.cells #[Value.int IntKind.i64 0] 25)).frozen? ⟨K + 1, 0, none⟩ = false := by
    have := World.frozen?_alloc_at (w := w.alloc (Obj.cells #[Value.pointer none] 35)) #[Value.int IntKind.i64 0] 25 _ 0 rfl
    rw [World.size_alloc] at this
    rw [hK]
    exact this
  have hs0 : ((w.alloc (Obj.cells #[Value.pointer none] 35)).alloc (Obj.cells #[Value.int IntKind.i64 0] 25)).heap.size = K + 2 := by rw [hK]; simp
  rw [← hK]
  generalize (w.alloc (Obj.cells #[Value.pointer none] 35)).alloc (Obj.cells #[Value.int IntKind.i64 0] 25) = w0 at hT0 r2 r3 f2 f3 hs0 ⊢
  have D0 := h.turn hT0 id id
  have B0 : BytesOff w0 d (fun k => k < K) v0 l := by
    have hv' : BytesOff w d (fun k => k < K) v0 l := by
      rcases hv with ⟨b, o, c, h1, h2, h5, h3, h6, h4⟩ | hv
      · exact .inl ⟨b, o, c, h1, h2, h5, ⟨by rw [hK]; exact h3.2, h3.2⟩, h6, h4⟩
      · exact .inr hv
    exact hT0.bytes hv' (fun _ _ _ => id)
  have hdm : d < K ∧ m < K := by rw [hK]; exact ⟨h.lt, h.fs.lt⟩
  have HK := Hid.mk' hK
  clear h hv hK
  refine ⟨trivial, callsIn_wide.2 ((jopen_any d m cnt v0 l w0 D0 hcnt B0 hl).mono ?_)⟩
  rintro e w1 hq
  have HO : Hid (openF l = match recsL (l.length + 1) l [] 0 with
  | none => 8
  | some (rs, _) => match scanF rs [] with
    | none => 8
    | some ids => if 65536 < ids.length then 3 else 0) := rfl
  cases hrec : recsL (l.length + 1) l [] 0 with
  | none =>
    rw [hrec] at hq
    obtain ⟨rfl, hT1⟩ := hq
    have hO := HO.out
    rw [hrec] at hO
    have hO2 : openF l = 8 := hO
    have HO2 := Hid.mk' hO2
    clear hO hO2 HO hrec D0 B0
    have n2 : ¬ (K = m ∨ K = d) := by omega
    have n3 : ¬ (K + 1 = m ∨ K + 1 = d) := by omega
    have q2 := hT1.cell r2 n2
    have q3 := hT1.cell r3 n3
    have g2 := (hT1.frozen (p := ⟨K, 0, none⟩) (by show K < w0.heap.size; omega) n2).trans f2
    have g3 := (hT1.frozen (p := ⟨K + 1, 0, none⟩) (by show K + 1 < w0.heap.size; omega) n3).trans f3
    have hTF : Turn (fun k => k = m ∨ k = d) w ((w1.setCell ⟨K, 0, none⟩ (.pointer none)).setCell ⟨K + 1, 0, none⟩ (.int .i64 8)) := by
      have := HK.out
      refine (((((hT0.mono (S' := fun k => k = m ∨ k = d ∨ K ≤ k) (fun _ _ h => h.elim)).trans (hT1.mono (fun k _ h => h.elim .inl fun h => .inr (.inl h)))).setCell (p := ⟨K, 0, none⟩) (.inr (.inr (Nat.le_refl _))) (.pointer none)).setCell (p := ⟨K + 1, 0, none⟩) (.inr (.inr (Nat.le_succ _))) (.int .i64 8)).mono (fun k hk h => ?_))
      omega
    have x2 : ((w1.setCell ⟨K, 0, none⟩ (.pointer none)).setCell ⟨K + 1, 0, none⟩ (.int .i64 8)).cell? ⟨K, 0, none⟩ = some (.pointer none) := (World.cell?_setCell_other _ _ _ _ (by simp)).trans (World.cell?_setCell_same _ _ _ q2)
    have x3 : ((w1.setCell ⟨K, 0, none⟩ (.pointer none)).setCell ⟨K + 1, 0, none⟩ (.int .i64 8)).cell? ⟨K + 1, 0, none⟩ = some (.int .i64 8) := World.cell?_setCell_same _ _ _ ((World.cell?_setCell_other _ _ _ _ (by simp)).trans q3)
    have HF := Hid.mk' (And.intro hTF (And.intro x2 x3))
    clear hTF x2 x3 hT1
    gi_wp2_with (fail)
    refine ⟨_, sopen_results rfl rfl HF.out.2.1 HF.out.2.2, ?_⟩
    rw [HPO.out]
    refine ⟨HF.out.1, ?_⟩
    rw [HO2.out, if_neg (by decide)]
  | some p =>
    obtain ⟨rs, sz⟩ := p
    rw [hrec] at hq
    obtain ⟨j, Bj, va, vp, rfl, hwj, J1, ⟨v1, cnt1, D1, B1⟩, hT1⟩ := hq
    have hO := HO.out
    rw [hrec] at hO
    have HO2 : Hid (openF l = match scanF rs [] with | none => 8 | some ids => if 65536 < ids.length then 3 else 0) := hO
    have HRL : rs.flatten.length ≤ 1000000 ∧ rs.length ≤ 1000000 := by have := recsL_bound (l.length + 1) l [] 0 (by simp) (by simp) rs sz hrec; omega
    clear hO HO hrec D0 B0
    have n2 : ¬ (K = m ∨ K = d) := by omega
    have n3 : ¬ (K + 1 = m ∨ K + 1 = d) := by omega
    have q2 := hT1.cell r2 n2
    have q3 := hT1.cell r3 n3
    have g2 := (hT1.frozen (p := ⟨K, 0, none⟩) (by show K < w0.heap.size; omega) n2).trans f2
    have g3 := (hT1.frozen (p := ⟨K + 1, 0, none⟩) (by show K + 1 < w0.heap.size; omega) n3).trans f3
    have hmm := @run_makeMap Tryz.prog
    gi_wp2_with (fail)
    obtain ⟨M, hM⟩ : ∃ M, M = w1.heap.size := ⟨_, rfl⟩
    refine ⟨trivial, callsIn_wide.2 ((each_any j _).mono ?_)⟩
    rintro e w5 ⟨rfl, hw5⟩
    have hA : ∃ A0 A1 A2, A0 = w1.alloc (.map #[] 0) ∧ A1 = A0.alloc (Obj.cells #[Value.pointer (some ⟨j, 0, none⟩), Value.map (some M), Value.slice none 0 0] 69) ∧ A2 = A1.alloc (Obj.cells #[Value.pointer (some ⟨M + 1, 0, none⟩)] 35) ∧ w5 = A2.alloc (Obj.cells #[Value.pointer (some ⟨j, 0, none⟩)] 63) := ⟨_, _, _, rfl, rfl, rfl, by rw [hw5, hM]⟩
    clear hmm
    obtain ⟨A0, A1, A2, hA0, hA1, hA2, hA5⟩ := hA
    have z0 : A0.heap.size = M + 1 := by rw [hA0, hM]; exact World.size_alloc _ _
    have z1 : A1.heap.size = M + 2 := by rw [hA1, World.size_alloc, z0]
    have z2 : A2.heap.size = M + 3 := by rw [hA2, World.size_alloc, z1]
    have z5 : w5.heap.size = M + 4 := by rw [hA5, World.size_alloc, z2]
    have om0 : A0.ownsMap (H := Unit) Tryz.prog 48 (plainElem Tryz.prog 3) M 0 (.map []) := by rw [hA0, hM]; exact World.ownsMap_made _ _ _ _
    have s0 : ∀ k v, #[Value.pointer (some ⟨j, 0, none⟩), Value.map (some M), Value.slice none 0 0][k]? = some v → A1.cell? ⟨M + 1, k, none⟩ = some v := fun k v hk => by rw [hA1, ← z0]; exact row_cell _ _ _ k _ hk
    have sf : A1.frozen? ⟨M + 1, 2, none⟩ = false := by rw [hA1]; exact World.frozen?_alloc_at _ _ _ _ z0.symm
    have b6 : A2.cell? ⟨M + 2, 0, none⟩ = some (.pointer (some ⟨M + 1, 0, none⟩)) := by rw [hA2, ← z1]; exact row_cell _ _ _ 0 _ rfl
    have b7 : w5.cell? ⟨M + 3, 0, none⟩ = some (.pointer (some ⟨j, 0, none⟩)) := by rw [hA5, ← z2]; exact row_cell _ _ _ 0 _ rfl
    have tA1 : Turn (fun _ => False) A0 A1 := by rw [hA1]; exact (Turn.refl _ _).alloc _
    have tA2 : Turn (fun _ => False) A1 A2 := by rw [hA2]; exact (Turn.refl _ _).alloc _
    have tA5 : Turn (fun _ => False) A2 w5 := by rw [hA5]; exact (Turn.refl _ _).alloc _
    have tA : Turn (fun _ => False) w1 w5 := (by rw [hA0]; exact (Turn.refl _ _).alloc _ : Turn (fun _ => False) w1 A0).trans (tA1.trans (tA2.trans tA5))
    have tB : Turn (fun _ => False) A1 w5 := tA2.trans tA5
    have J5 := J1.turn tA id (fun _ _ => id) (fun _ _ => id)
    have D5 := D1.turn tA id id
    have HB5 : Hid (BytesOff w5 d (fun k => (k < K ∨ K + 2 ≤ k) ∧ k < M) v1 (l.take sz)) := by
      have B1' : BytesOff w1 d (fun k => (k < K ∨ K + 2 ≤ k) ∧ k < M) v1 (l.take sz) := by
        rcases B1 with ⟨b, o, c, h1, h2, h5, h3, h6, h4⟩ | hv
        · exact .inl ⟨b, o, c, h1, h2, h5, ⟨⟨by have := h3.1; omega, by rw [hM]; exact h3.2⟩, h3.2⟩, h6, h4⟩
        · exact .inr hv
      exact tA.bytes B1' (fun _ _ _ => id)
    have q2' := tA.cell q2 id
    have q3' := tA.cell q3 id
    have g2' := (tA.frozen (p := ⟨K, 0, none⟩) (World.block_lt_of_cell? _ _ q2) id).trans g2
    have g3' := (tA.frozen (p := ⟨K + 1, 0, none⟩) (World.block_lt_of_cell? _ _ q3) id).trans g3
    have hjM : j < M := by rw [hM]; exact Nat.lt_of_lt_of_le J1.jB J1.sB
    have hvM : (∀ k, va.ownBlock = some k → k < M) ∧ (∀ k, vp.ownBlock = some k → k < M) := ⟨fun k hk => by rw [hM]; exact (J1.oa.lt k hk).2, fun k hk => by rw [hM]; exact (J1.op.lt k hk).2⟩
    have hKM : K + 1 < M := by rw [hM]; exact World.block_lt_of_cell? _ _ q3
    have c6 : w5.cell? ⟨M + 1 + 1, 0, none⟩ = some (.pointer (some ⟨M + 1, 0, none⟩)) := tA5.cell b6 id
    have c7 : w5.cell? ⟨M + 1 + 1 + 1, 0, none⟩ = some (.pointer (some ⟨j, 0, none⟩)) := b7
    have st5 : ∀ W1 : World, Turn (fun _ => False) w5 W1 → M + 6 ≤ W1.heap.size → StAt W1 (M + 1) j M (M + 6) (.slice none 0 0) [] := fun W1 T hz =>
      ⟨(tB.trans T).cell (s0 0 _ rfl) id, (tB.trans T).cell (s0 1 _ rfl) id, (tB.trans T).cell (s0 2 _ rfl) id, ((tB.trans T).frozen (p := ⟨M + 1, 2, none⟩) (by show M + 1 < A1.heap.size; omega) id).trans sf,
        ⟨.map [], ((tA1.trans (tB.trans T)).map om0 id), ⟨[], rfl⟩, fun y => rfl⟩, World.ownsRow_nil _ _ _ _, by omega, by omega, by omega, hz⟩
    have hTw : Turn (fun k => k = m ∨ k = d) w w5 := ((hT0.mono (fun _ _ h => h.elim)).trans (hT1.mono (fun _ _ h => h))).trans (tA.mono (fun _ _ h => h.elim))
    have hz2 : M = A0.heap.size - 1 := by omega
    rw [← hM]
    simp only [World.size_alloc]
    rw [← hM]
    have hMh := Hid.mk' hM
    clear hw5 hA0 hA1 hA2 hA5 om0 s0 sf b6 tA1 tA2 tA5 tB J1 D1 q2 q3 g2 g3 z0 z1 z2 tA B1 hT1 hz2 hT0 r2 r3 f2 f3 hs0 b7 hM
    gi_wp2_with (fail)
    have hrl : rs.flatten.length ≤ 1000000 ∧ rs.length ≤ 1000000 := HRL
    obtain ⟨II, hII⟩ : ∃ II : Nat → World → Prop, II = fun k W => (∃ ids vi, Hid (scanF (rs.drop k) ids = scanF rs []) ∧ ids.length = k ∧ StAt W (M + 1) j M (M + 6) vi ids) ∧ Turn (fun x => x = M ∨ x = M + 1) w5 W := ⟨_, rfl⟩
    obtain ⟨XX, hXX⟩ : ∃ XX : World → Prop, XX = fun W => (Hid (scanF rs [] = none) ∧ W.cell? ⟨K, 0, none⟩ = some (.pointer none) ∧ W.cell? ⟨K + 1, 0, none⟩ = some (.int .i64 8)) ∧ Turn (fun x => x = M ∨ x = M + 1 ∨ x = K ∨ x = K + 1) w5 W := ⟨_, rfl⟩
    have HII := Hid.mk' hII
    have HXX := Hid.mk' hXX
    have HZ5 := Hid.mk' z5
    clear hII hXX z5
    refine range_law (j := j) (d := d) (B := Bj) (va := va) (vp := vp) (f := objS) (rs := rs) (sz := sz) (Bx := M + 1 + 1 + 1) rfl rfl hrl.1 hrl.2
      II XX
      ?hIat ?hIst ?hXst ?h0 (fun k v => { tmps := #[.pointer (some ⟨d, 0, none⟩), undef, .pointer (some ⟨K, 0, none⟩), .pointer (some ⟨K + 1, 0, none⟩), .pointer (some ⟨j, 0, none⟩), .int .i64 0, .pointer (some ⟨M + 1 + 1, 0, none⟩), .int .i64 (k : Int), v, undef, undef, undef, undef, undef, .tuple #[.pointer (some ⟨j, 0, none⟩), .int .i64 0], .pointer (some ⟨d, 0, none⟩), .tuple #[.pointer (some ⟨j, 0, none⟩), .int .i64 0], .pointer (some ⟨j, 0, none⟩), .int .i64 0, .int .i64 0, .bool false, undef, .pointer (some ⟨j, 0, none⟩), .map (some M), .agg #[.pointer (some ⟨j, 0, none⟩), .map (some M), .slice none 0 0], .pointer (some ⟨M + 1, 0, none⟩), .pointer (some ⟨j, 0, none⟩), .func (.func 53) #[] #[.pointer (some ⟨M + 1 + 1 + 1, 0, none⟩)], .int .i64 (k : Int), v, undef, undef, undef, undef, undef, undef, undef, undef, undef, undef, undef, undef, undef, undef, undef, undef, undef, undef, undef, undef, undef, undef, undef, undef, undef, undef, undef, undef, undef, undef, undef, undef], defers := [] }) ?hassign ?hbody ?hdone ?hstop
    case hIat =>
      rintro k W hI
      rw [HII.out] at hI
      obtain ⟨_, T⟩ := hI
      exact ⟨J5.turn T (by omega) (fun k hk e => by have := hvM.1 k hk; omega) (fun k hk e => by have := hvM.2 k hk; omega), T.cell c7 (by show ¬ (M + 1 + 1 + 1 = M ∨ M + 1 + 1 + 1 = M + 1); omega)⟩
    case hIst =>
      rintro k A A' hI T2
      rw [HII.out] at hI ⊢
      obtain ⟨⟨ids, vi, h1, h2, h3⟩, T⟩ := hI
      rw [HZ5.out] at T2
      have z5 := HZ5.out
      exact ⟨⟨ids, vi, h1, h2, h3.turn T2 (by omega) (by omega) (fun k hk e => by have := (h3.oi.lt k hk).1; omega)⟩, ((T.mono (S' := fun x => x = M ∨ x = M + 1 ∨ x = M + 4 + 1) (fun x _ h => by omega)).trans (T2.mono (fun x _ h => .inr (.inr h)))).mono (fun x hx h => by omega)⟩
    case hXst =>
      rintro A A' hI T2
      rw [HXX.out] at hI ⊢
      obtain ⟨⟨h1, h2, h3⟩, T⟩ := hI
      rw [HZ5.out] at T2
      have z5 := HZ5.out
      exact ⟨⟨h1, T2.cell h2 (by show ¬ K = M + 4 + 1; omega), T2.cell h3 (by show ¬ K + 1 = M + 4 + 1; omega)⟩, ((T.mono (S' := fun x => x = M ∨ x = M + 1 ∨ x = K ∨ x = K + 1 ∨ x = M + 4 + 1) (fun x _ h => by omega)).trans (T2.mono (fun x _ h => .inr (.inr (.inr (.inr h)))))).mono (fun x hx h => by omega)⟩
    case h0 =>
      intro r
      have T : Turn (fun _ => False) w5 ((w5.alloc (.deferred (some []))).alloc (.loop r)) := ((Turn.refl _ _).alloc _).alloc _
      rw [HII.out]
      have z5 := HZ5.out
      exact ⟨⟨[], _, rfl, rfl, st5 _ T (by rw [World.size_alloc, World.size_alloc]; omega)⟩, T.mono (fun _ _ h => h.elim)⟩
    case hassign =>
      intro k v W K hK
      gi_wp2
      exact hK
    case hbody =>
      rintro k v x W hI hx hbv hWs
      rw [HII.out] at hI
      obtain ⟨⟨ids, vi, HS, hlen, hst⟩, T⟩ := hI
      rw [HZ5.out] at hWs
      obtain ⟨av, cv, hvv⟩ := hbv.len
      have HBV := Hid.mk' hbv
      subst hvv
      have hk : k < rs.length := (List.getElem?_eq_some_iff.1 hx).1
      have hdr : rs.drop k = x :: rs.drop (k + 1) := by
        rw [List.drop_eq_getElem_cons hk]
        have : rs[k] = x := by rw [List.getElem?_eq_getElem hk] at hx; exact Option.some.inj hx
        rw [this]
      have hxl : x.length ≤ 1000000 := by obtain ⟨tt, ht⟩ := flat_mid rs k x hx; have := hrl.1; rw [ht] at this; simp only [List.length_append] at this; omega
      have HS2 : Hid ((if decOk x = false ∨ ids.contains (idF x) = true then none else scanF (rs.drop (k + 1)) (ids ++ [idF x])) = scanF rs []) := by
        have := HS.out
        rw [hdr, scanF] at this
        exact this
      have hid := idF_range x
      have hcall := id_any x (.slice av x.length cv) W HBV.out.at (by omega)
      rw [show max (hashD x) 1 = idF x from rfl] at hcall
      generalize idF x = idn at hcall hid HS2
      obtain ⟨D, om, hMp, hD⟩ := hst.om
      have hkey := Maps.keyOf_int_mk (P := Tryz.prog) u48 (WalkArith.wf_u64 (n := idn) (by omega))
      obtain ⟨vv, ps, hlook, hvv⟩ := om.look_ok (Maps.int_keyed u48) u66 (z3 W) (plainElem_int (H := Unit) u3 (by decide : (Lit.int .i64 0).wf = true)) hkey
      obtain ⟨cc, rfl, hcc1, hcc2⟩ := plainElem_int_inv u3 hvv
      rw [hD idn] at hlook
      generalize ids.contains idn = ct at hlook HS2
      clear hcc1 hcc2 hvv om hMp hD hkey HS hdr hbv
      have e6 := T.cell c6 (by show ¬ (M + 1 + 1 = M ∨ M + 1 + 1 = M + 1); omega)
      have e1 := hst.c1
      have HST := Hid.mk' hst
      have HTT := Hid.mk' T
      clear hst T
      gi_wp2_with (fail)
      refine ⟨trivial, CallsIn.inRound _ (callsIn_wide.2 (hcall.mono ?_))⟩
      rintro e w6 ⟨rfl, rfl⟩
      gi_wp2_with (fail)
      refine ⟨trivial, CallsIn.inRound _ (callsIn_wide.2 ((decode_any 0 x _ w6 HBV.out (by omega) hxl).mono ?_))⟩
      rintro e w7 ⟨⟨o, rfl⟩, hbl⟩
      have T7 : Turn (fun _ => False) w6 w7 := .below hbl (fun x h1 h2 => by omega)
      have HT7 := Hid.mk' T7
      have e67 := T7.cell e6 id
      have hq2 : ¬ (K = M ∨ K = M + 1) := by omega
      have hq3 : ¬ (K + 1 = M ∨ K + 1 = M + 1) := by omega
      have p2 := T7.cell (HTT.out.cell q2' hq2) id
      have p3 := T7.cell (HTT.out.cell q3' hq3) id
      have u2 := (T7.frozen (p := ⟨K, 0, none⟩) (World.block_lt_of_cell? _ _ (HTT.out.cell q2' hq2)) id).trans ((HTT.out.frozen (p := ⟨K, 0, none⟩) (World.block_lt_of_cell? _ _ q2') hq2).trans g2')
      have u3 := (T7.frozen (p := ⟨K + 1, 0, none⟩) (World.block_lt_of_cell? _ _ (HTT.out.cell q3' hq3)) id).trans ((HTT.out.frozen (p := ⟨K + 1, 0, none⟩) (World.block_lt_of_cell? _ _ q3') hq3).trans g3')
      have bad : decOk x = false ∨ ct = true → Hid (scanF rs [] = none) := fun h => by rw [← HS2.out, if_pos h]; rfl
      have stop : ∀ ac : Act, Hid (scanF rs [] = none) → rndPost (w5.heap.size + 1) w5.heap.size
          II XX k w6 .ret ac
          ((w7.setCell ⟨K, 0, none⟩ (.pointer none)).setCell ⟨K + 1, 0, none⟩ (.int .i64 8)) := fun ac hnone => by
        have T8 : Turn (fun x => x = K ∨ x = K + 1) w7 ((w7.setCell ⟨K, 0, none⟩ (.pointer none)).setCell ⟨K + 1, 0, none⟩ (.int .i64 8)) := ((Turn.refl (fun x => x = K ∨ x = K + 1) w7).setCell (p := ⟨K, 0, none⟩) (.inl rfl) _).setCell (p := ⟨K + 1, 0, none⟩) (.inr rfl) _
        have s7 := HT7.out.size
        show (_ ∧ _) ∧ XX _
        rw [HXX.out]
        refine ⟨⟨?_, ?_⟩, ⟨hnone, ?_, ?_⟩, ?_⟩
        · rw [HZ5.out]
          exact (T8.block (M + 4 + 1) (by omega) (by omega)).trans (HT7.out.block _ (by omega) id)
        · rw [HZ5.out]
          exact (T8.block (M + 4) (by omega) (by omega)).trans (HT7.out.block _ (by omega) id)
        · exact (World.cell?_setCell_other _ _ _ _ (by simp)).trans (World.cell?_setCell_same _ _ _ p2)
        · exact World.cell?_setCell_same _ _ _ ((World.cell?_setCell_other _ _ _ _ (by simp)).trans p3)
        · exact ((HTT.out.mono (S' := fun x => x = M ∨ x = M + 1 ∨ x = K ∨ x = K + 1) (fun x _ h => by omega)).trans (HT7.out.mono (fun _ _ h => h.elim))).trans (T8.mono (fun x _ h => by omega))
      have HSTOP := Hid.mk' stop
      have HBAD := Hid.mk' bad
      clear stop bad T7
      cases hdo : decOk x with
      | false =>
        simp only [Bool.false_eq_true, if_false]
        gi_wp2_with (fail)
        all_goals exact HSTOP.out _ (HBAD.out (.inl hdo))
      | true =>
        simp only [if_true]
        cases ct with
        | true =>
          gi_wp2_with (fail)
          all_goals exact HSTOP.out _ (HBAD.out (.inr (by first | rfl | trivial)))
        | false =>
          have HN : Hid (scanF (rs.drop (k + 1)) (ids ++ [idn]) = scanF rs []) := by rw [← HS2.out, if_neg (by rw [hdo]; decide)]; rfl
          have hst7 := HST.out.turn HT7.out id id (fun _ _ => id)
          have hidl : ids.length ≤ 1000000 := by have := hrl.2; omega
          gi_wp2_with (fail)
          refine ⟨trivial, CallsIn.inRound _ (callsIn_wide.2 ((note_any (M + 1) j M (M + 6) vi ids idn k w7 hst7 hid (by have := hrl.2; omega) hidl).mono ?_))⟩
          rintro e w8 ⟨rfl, T8, vi', hst8⟩
          have HF := Hid.mk' (And.intro T8 hst8)
          clear T8 hst8 hst7
          gi_wp2_with (fail)
          obtain ⟨T8, hst8⟩ := HF.out
          have s7 := HT7.out.size
          have z5 := HZ5.out
          show (_ ∧ _) ∧ II (k + 1) _
          rw [HII.out]
          refine ⟨⟨?_, ?_⟩, ⟨ids ++ [idn], vi', HN, by simp [hlen], hst8⟩, ?_⟩
          · rw [HZ5.out]
            exact (T8.block (M + 4 + 1) (by omega) (by omega)).trans (HT7.out.block _ (by omega) id)
          · rw [HZ5.out]
            exact (T8.block (M + 4) (by omega) (by omega)).trans (HT7.out.block _ (by omega) id)
          · exact ((HTT.out.mono (S' := fun x => x = M ∨ x = M + 1 ∨ M + 6 ≤ x) (fun x _ h => by omega)).trans ((HT7.out.mono (fun _ _ h => h.elim)).trans (T8.mono (fun x _ h => by omega)))).mono (fun x hx h => by omega)
    case hdone =>
      rintro W hI hdf
      rw [HII.out] at hI
      obtain ⟨⟨ids, vi, HS, hlen, hst⟩, T⟩ := hI
      have hsc : scanF rs [] = some ids := by
        have := HS.out
        rw [List.drop_length, scanF] at this
        exact this.symm
      have HO3 : Hid (openF l = if 65536 < ids.length then 3 else 0) := by rw [HO2.out, hsc]; rfl
      obtain ⟨ai, ci, hvi⟩ := slice_of_owns hst.oi
      subst hvi
      have e6 := T.cell c6 (by show ¬ (M + 1 + 1 = M ∨ M + 1 + 1 = M + 1); omega)
      have e2 := hst.c2
      have hq2 : ¬ (K = M ∨ K = M + 1) := by omega
      have hq3 : ¬ (K + 1 = M ∨ K + 1 = M + 1) := by omega
      have p2 := T.cell q2' hq2
      have p3 := T.cell q3' hq3
      have u2 := (T.frozen (p := ⟨K, 0, none⟩) (World.block_lt_of_cell? _ _ q2') hq2).trans g2'
      have u3 := (T.frozen (p := ⟨K + 1, 0, none⟩) (World.block_lt_of_cell? _ _ q3') hq3).trans g3'
      have hsz := HZ5.out
      have done : ∀ (p : Option Addr) (e : Int), Hid (((((W.setCell ⟨K, 0, none⟩ (.pointer p)).setCell ⟨K + 1, 0, none⟩ (.int .i64 e)).putObj w5.heap.size (.deferred none)).cell? ⟨K, 0, none⟩ = some (.pointer p) ∧ (((W.setCell ⟨K, 0, none⟩ (.pointer p)).setCell ⟨K + 1, 0, none⟩ (.int .i64 e)).putObj w5.heap.size (.deferred none)).cell? ⟨K + 1, 0, none⟩ = some (.int .i64 e)) ∧
          ((W.setCell ⟨K, 0, none⟩ (.pointer p)).setCell ⟨K + 1, 0, none⟩ (.int .i64 e)).heap[w5.heap.size]? = some (.deferred (some [])) ∧
          Turn (fun k => k = m ∨ k = d) w (((W.setCell ⟨K, 0, none⟩ (.pointer p)).setCell ⟨K + 1, 0, none⟩ (.int .i64 e)).putObj w5.heap.size (.deferred none)) ∧
          StAt (((W.setCell ⟨K, 0, none⟩ (.pointer p)).setCell ⟨K + 1, 0, none⟩ (.int .i64 e)).putObj w5.heap.size (.deferred none)) (M + 1) j M (M + 6) (.slice ai ids.length ci) ids ∧
          (DiskAt (((W.setCell ⟨K, 0, none⟩ (.pointer p)).setCell ⟨K + 1, 0, none⟩ (.int .i64 e)).putObj w5.heap.size (.deferred none)) d m (some v1) cnt1 ∧ BytesOff (((W.setCell ⟨K, 0, none⟩ (.pointer p)).setCell ⟨K + 1, 0, none⟩ (.int .i64 e)).putObj w5.heap.size (.deferred none)) d (fun _ => True) v1 (l.take sz))) := fun p e => by
        have HW := HK.out
        have T8 : Turn (fun x => x = K ∨ x = K + 1) W ((W.setCell ⟨K, 0, none⟩ (.pointer p)).setCell ⟨K + 1, 0, none⟩ (.int .i64 e)) := ((Turn.refl (fun x => x = K ∨ x = K + 1) W).setCell (p := ⟨K, 0, none⟩) (.inl rfl) _).setCell (p := ⟨K + 1, 0, none⟩) (.inr rfl) _
        have y2 : ((W.setCell ⟨K, 0, none⟩ (.pointer p)).setCell ⟨K + 1, 0, none⟩ (.int .i64 e)).cell? ⟨K, 0, none⟩ = some (.pointer p) := (World.cell?_setCell_other _ _ _ _ (by simp)).trans (World.cell?_setCell_same _ _ _ p2)
        have y3 : ((W.setCell ⟨K, 0, none⟩ (.pointer p)).setCell ⟨K + 1, 0, none⟩ (.int .i64 e)).cell? ⟨K + 1, 0, none⟩ = some (.int .i64 e) := World.cell?_setCell_same _ _ _ ((World.cell?_setCell_other _ _ _ _ (by simp)).trans p3)
        have hD8 := (T8.block w5.heap.size (Array.getElem?_eq_some_iff.1 hdf).1 (by omega)).trans hdf
        have T9 := putObj_turn ((W.setCell ⟨K, 0, none⟩ (.pointer p)).setCell ⟨K + 1, 0, none⟩ (.int .i64 e)) w5.heap.size (.deferred none)
        have TT : Turn (fun x => x = K ∨ x = K + 1 ∨ x = w5.heap.size) W (((W.setCell ⟨K, 0, none⟩ (.pointer p)).setCell ⟨K + 1, 0, none⟩ (.int .i64 e)).putObj w5.heap.size (.deferred none)) := (T8.mono (fun x _ h => by omega)).trans (T9.mono (fun x _ h => .inr (.inr h)))
        refine ⟨⟨T9.cell y2 (by show ¬ K = w5.heap.size; omega), T9.cell y3 (by show ¬ K + 1 = w5.heap.size; omega)⟩, hD8, ?_, ?_, ?_⟩
        · exact (((hTw.mono (S' := fun x => x = m ∨ x = d ∨ K ≤ x) (fun x _ h => by omega)).trans (T.mono (fun x _ h => by omega))).trans (TT.mono (fun x _ h => by omega))).mono (fun x hx h => by omega)
        · exact hst.turn TT (by omega) (by omega) (fun k hk => by have := (hst.oi.lt k hk).1; omega)
        · exact ⟨(D5.turn T (by omega) (by omega)).turn TT (by omega) (by omega), (TT.bytes (T.bytes HB5.out (fun k hk _ e => by omega)) (fun k hk _ e => by omega)).imp fun _ _ => trivial⟩
      have HF := Hid.mk' done
      clear hst T HS hsc HO2 hdf done hsz
      by_cases hbig : 65536 < ids.length
      · have hbig' : (65536 : Int) < (ids.length : Int) := by omega
        gi_wp2_with (fail)
        obtain ⟨⟨x2, x3⟩, x4, x5, x6, x7⟩ := (HF.out none 3).out
        refine ⟨by simp, .inl ⟨_, _, rfl, run_takeDeferred x4, ⟨_, sopen_results rfl rfl x2 x3, ?_⟩⟩⟩
        rw [HPO.out]
        refine ⟨x5, ?_⟩
        rw [HO3.out, if_pos hbig, if_neg (by decide)]
      · have hbig' : ¬ (65536 : Int) < (ids.length : Int) := by omega
        gi_wp2_with (fail)
        obtain ⟨⟨x2, x3⟩, x4, x5, x6, x7⟩ := (HF.out (some ⟨M + 1, 0, none⟩) 0).out
        refine ⟨by simp, .inl ⟨_, _, rfl, run_takeDeferred x4, ⟨_, sopen_results rfl rfl x2 x3, ?_⟩⟩⟩
        rw [HPO.out]
        refine ⟨x5, ?_⟩
        rw [HO3.out, if_neg hbig, if_pos rfl]
        exact ⟨_, _, _, _, _, _, _, _, _, rfl, x6, x7.1, by rw [List.length_take]; omega, x7.2⟩
    case hstop =>
      rintro W hI hdf
      rw [HXX.out] at hI
      obtain ⟨⟨hnone, k2, k3⟩, T⟩ := hI
      have hsz := HZ5.out
      have hO4 : openF l = 8 := by rw [HO2.out, hnone.out]
      have tP := putObj_turn W w5.heap.size (.deferred none)
      have kk2 := tP.cell k2 (by show ¬ K = w5.heap.size; omega)
      have kk3 := tP.cell k3 (by show ¬ K + 1 = w5.heap.size; omega)
      have HW := HK.out
      have HF := Hid.mk' (And.intro hO4 (And.intro kk2 (And.intro kk3 (And.intro T (And.intro tP hdf)))))
      clear hO4 kk2 kk3 T tP hdf hnone k2 k3 hsz HW
      gi_wp2_with (fail)
      obtain ⟨hO4, kk2, kk3, T, tP, hdf⟩ := HF.out
      refine ⟨by simp, .inl ⟨_, _, rfl, run_takeDeferred hdf, ⟨_, sopen_results rfl rfl kk2 kk3, ?_⟩⟩⟩
      rw [HPO.out]
      have hsz := HZ5.out
      have HW := HK.out
      refine ⟨(((hTw.mono (S' := fun x => x = m ∨ x = d ∨ K ≤ x) (fun x _ h => by omega)).trans (T.mono (fun x _ h => by omega))).trans (tP.mono (fun x _ h => by omega))).mono (fun x hx h => by omega), ?_⟩
      rw [hO4, if_neg (by decide)]
end Go.Proofs

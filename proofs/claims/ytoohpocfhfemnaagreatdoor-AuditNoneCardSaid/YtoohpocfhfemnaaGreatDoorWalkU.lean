/- A part of the proof of AuditNone: the runs of the document's example and of the law's body, and facts of the row. Conditions: none. -/
import Derived.Test.YtoohpocfhfemnaaGreatDoorWalkT
import Derived.Laws.EntriesVeiled
namespace Go.Proofs
open Go.Shelf Go.RowKit Go.Lib
variable {I S : Nat → Prop}
attribute [local go_sem] Oper.semAt_some
set_option maxRecDepth 1000000

set_option maxHeartbeats 4000000 in
theorem rall_any (r : Nat) (w : World) : Calls Tryz.prog 74 #[.pointer (some ⟨r, 0, none⟩)] w fun e w' => e = .returned (.func (.func 109) #[] #[.pointer (some ⟨w.heap.size, 0, none⟩)]) ∧ w' = w.alloc (.cells #[.pointer (some ⟨r, 0, none⟩)] 44) := by
  go_enter Tryz.func74, Tryz.ntmps74
  go_wp2_with (fail)
  go_ret
  exact ⟨rfl, rfl⟩

set_option maxHeartbeats 4000000 in
theorem rall1_any (l bx r mp : Nat) (w : World) (hb : w.cell? ⟨bx, 0, none⟩ = some (.pointer (some ⟨r, 0, none⟩))) (h : RfAt w r mp) :
    Calls Tryz.prog 109 #[.func (.yield l) #[] #[], .pointer (some ⟨bx, 0, none⟩)] w fun e w' => (∃ v, e = .returned v) ∧ Turn (fun _ => False) w w' := by
  have c0 := h.c0
  have HM := Hid.mk' h.mp
  have hlt := (Array.getElem?_eq_some_iff.1 h.mp).1
  clear h
  go_enter Tryz.func109, Tryz.ntmps109
  go_wp2_with (fail)
  refine (keys110 mp w).mono ?_
  rintro e w1 ⟨rfl, rfl⟩
  go_wp2_with (fail)
  have T1 : Turn (fun _ => False) w (w.alloc (Obj.cells #[Value.map (some mp)] 89)) := (Turn.refl _ _).alloc _
  refine (sorted_none ((T1.block mp hlt id).trans HM.out) (World.alloc_last w _)).mono ?_
  rintro e w2 ⟨rfl, hT⟩
  have HT : Hid (Turn (fun _ => False) w w2) := ((T1.mono (S' := fun x => x = w.heap.size) (fun _ _ h => h.elim)).trans hT).mono (fun k hk e => by omega)
  clear hT T1
  go_wp2_with (fail)
  refine wp_loop_once ?_
  go_wp2_with (fail)
  go_end0
  exact ⟨⟨_, rfl⟩, HT.out⟩

set_option maxHeartbeats 8000000 in
theorem arefs_any (s r mp : Nat) (w : World) (h : RfAt w r mp) :
    Calls Tryz.prog 38 #[.pointer (some ⟨s, 0, none⟩), .pointer (some ⟨r, 0, none⟩)] w fun e w' => e = .returned (.slice none 0 0) ∧ Turn (fun _ => False) w w' := by
  obtain ⟨PO, hPO⟩ : ∃ PO : Ending → World → Prop, PO = fun e w' => e = .returned (.slice none 0 0) ∧ Turn (fun _ => False) w w' := ⟨_, rfl⟩
  rw [← hPO]
  have HPO := Hid.mk' hPO
  clear hPO
  refine (callsIn_wide (n := 3)).1 ?_
  refine callsIn_of_wp_marks Tryz.func38 rfl trivial ?_ rfl
  simp only [Tryz.ntmps38, List.size_toArray, List.length_cons, List.length_nil, Nat.reduceAdd, Nat.reduceSub, Array.replicate_succ, Array.replicate_zero, List.push_toArray, List.append_toArray, List.nil_append, List.cons_append]
  gi_wp2_with (fail)
  obtain ⟨K, hK⟩ : ∃ K, K = w.heap.size := ⟨_, rfl⟩
  have hT0 : Turn (fun _ => False) w (((w.alloc (Obj.cells #[Value.pointer (some ⟨s, 0, none⟩)] 35)).alloc (Obj.cells #[Value.slice none 0 0] 24)).alloc (Obj.cells #[Value.func (Fn.func 73) #[] #[Value.pointer (some ⟨w.heap.size + 1, 0, none⟩)]] 162)) := (((Turn.refl _ _).alloc _).alloc _).alloc _
  have r5 : (((w.alloc (Obj.cells #[Value.pointer (some ⟨s, 0, none⟩)] 35)).alloc (Obj.cells #[Value.slice none 0 0] 24)).alloc (Obj.cells #[Value.func (Fn.func 73) #[] #[Value.pointer (some ⟨w.heap.size + 1, 0, none⟩)]] 162)).cell? ⟨K + 1, 0, none⟩ = some (.slice none 0 0) := by
    have := row_cell (w.alloc (Obj.cells #[Value.pointer (some ⟨s, 0, none⟩)] 35)) #[Value.slice none 0 0] 24 0 _ rfl
    rw [World.size_alloc] at this
    rw [hK]
    exact Lib.cell?_alloc_some _ this
  rw [← hK] at hT0 r5 ⊢
  generalize ((w.alloc (Obj.cells #[Value.pointer (some ⟨s, 0, none⟩)] 35)).alloc (Obj.cells #[Value.slice none 0 0] 24)).alloc (Obj.cells #[Value.func (Fn.func 73) #[] #[Value.pointer (some ⟨K + 1, 0, none⟩)]] 162) = w3 at hT0 r5 ⊢
  have HT := Hid.mk' hT0
  have HR : Hid (RfAt w3 r mp) := h.turn hT0 id id
  clear h hT0 hK
  refine ⟨trivial, callsIn_wide.2 ((rall_any r w3).mono ?_)⟩
  rintro e w4 ⟨rfl, hw4⟩
  have T4 : Turn (fun _ => False) w3 w4 := by rw [hw4]; exact (Turn.refl _ _).alloc _
  have hb4 : w4.cell? ⟨w3.heap.size, 0, none⟩ = some (.pointer (some ⟨r, 0, none⟩)) := by rw [hw4]; exact row_cell _ _ _ 0 _ rfl
  have r5' := T4.cell r5 id
  have HR4 : Hid (RfAt w4 r mp) := HR.out.turn T4 id id
  have HT4 : Hid (Turn (fun _ => False) w w4) := HT.out.trans T4
  clear T4 hw4 r5 HT HR
  gi_wp2_with (fail)
  refine range_none rfl (fun args w => enters_of Tryz.func109 (by kernel_rfl) rfl args w) (fun l W T => rall1_any l _ r mp W (T.cell hb4 id) (HR4.out.turn T id id)) ?_
  intro W T hdf
  have r6 := T.cell r5' id
  have HF := Hid.mk' (And.intro T hdf)
  clear T hdf
  gi_wp2_with (fail)
  refine ⟨by simp, .inl ⟨_, _, rfl, run_takeDeferred HF.out.2, ⟨_, results_tmp rfl _ _ _, ?_⟩⟩⟩
  rw [HPO.out]
  exact ⟨rfl, (((HT4.out.trans HF.out.1).mono (S' := fun x => x = w4.heap.size) (fun _ _ h => h.elim)).trans (putObj_turn _ _ _)).mono (fun x hx e => by have := HT4.out.size; omega)⟩
end Go.Proofs

namespace Go.Proofs
open Go.Shelf Go.RowKit Go.Lib
variable {I S : Nat → Prop}
attribute [local go_sem] Oper.semAt_some
set_option maxRecDepth 1000000

set_option maxHeartbeats 4000000 in
theorem texts_any (d : Nat) (w : World) : Calls Tryz.prog 34 #[.pointer (some ⟨d, 0, none⟩)] w fun e w' => e = .returned (.func (.func 64) #[] #[.pointer (some ⟨w.heap.size, 0, none⟩)]) ∧ w' = w.alloc (.cells #[.pointer (some ⟨d, 0, none⟩)] 32) := by
  go_enter Tryz.func34, Tryz.ntmps34
  go_wp2_with (fail)
  go_ret
  exact ⟨rfl, rfl⟩

set_option maxHeartbeats 8000000 in
theorem texts1_any (l bx d m r0 : Nat) (cnt : Int) (v0 : Value) (f : List UInt8) (w : World) (hb : w.cell? ⟨bx, 0, none⟩ = some (.pointer (some ⟨d, 0, none⟩))) (h : DiskAt w d m (some v0) cnt) (hv : BytesOff w r0 I v0 f) (hl : f.length ≤ 1000000) :
    Calls Tryz.prog 64 #[.func (.yield l) #[] #[], .pointer (some ⟨bx, 0, none⟩)] w fun e w' => (∃ v, e = .returned v) ∧ Turn (fun _ => False) w w' := by
  go_enter Tryz.func64, Tryz.ntmps64
  go_wp2_with (fail)
  refine (copy_any d m r0 cnt v0 f w h hv hl).mono ?_
  rintro e w1 ⟨d2, m2, v2, rfl, D2, B2, hd2, hm2, h1, T1⟩
  have HT1 := Hid.mk' T1
  clear h hv T1
  go_wp2_with (fail)
  refine (names_any d2 m2 0 v2 w1 D2 h1).mono ?_
  rintro e w2 ⟨g, o, c, rfl, hc, T2⟩
  have HT2 : Hid (Turn (fun _ => False) w w2) := HT1.out.trans T2
  clear D2 B2 T2 HT1 h1
  go_wp2_with (fail)
  refine Go.wp_loop_rounds 2 ?_
  rw [Go.rounds_succ]
  go_wp2_with (fail)
  refine (cut_rules w2).mono ?_
  rintro e w3 ⟨rfl, hbl⟩
  have hT3 := Turn.below (S := fun _ => False) hbl (fun k h1 h2 => absurd h1 (by omega))
  have HT3 : Hid (Turn (fun _ => False) w w3) := HT2.out.trans hT3
  clear hbl hT3 HT2
  go_wp2_with (fail)
  refine (unhex_obj w3).mono ?_
  rintro e w4 ⟨rfl, rfl⟩
  go_wp2_with (fail)
  try simp only [go_sem]
  rw [Go.rounds_succ]
  go_wp2_with (fail)
  go_end0
  exact ⟨⟨_, rfl⟩, HT3.out⟩
end Go.Proofs

namespace Go.Proofs
open Go.Shelf Go.RowKit Go.Lib
variable {I S : Nat → Prop}
attribute [local go_sem] Oper.semAt_some
set_option maxRecDepth 1000000

/-- What is counted lies where it lies. -/
structure CtAt (w : World) (K : Nat) (a : List Int) (fv : Value) : Prop where
  c : ∀ i x, a[i]? = some x → w.cell? ⟨K, i, none⟩ = some (.int .i64 x)
  v : w.cell? ⟨K, 5, none⟩ = some fv
theorem CtAt.turn {w w' : World} {K : Nat} {a : List Int} {fv : Value} (h : CtAt w K a fv) (t : Turn S w w') (hK : ¬ S K) : CtAt w' K a fv := ⟨fun i x hx => t.cell (h.c i x hx) hK, t.cell h.v hK⟩
theorem six {w : World} {K : Nat} {v0 v1 v2 v3 v4 v5 : Value} (e0 : w.cell? ⟨K, 0, none⟩ = some v0) (e1 : w.cell? ⟨K, 1, none⟩ = some v1) (e2 : w.cell? ⟨K, 2, none⟩ = some v2) (e3 : w.cell? ⟨K, 3, none⟩ = some v3) (e4 : w.cell? ⟨K, 4, none⟩ = some v4) (e5 : w.cell? ⟨K, 5, none⟩ = some v5) (a0 a1 a2 a3 a4 : Int) (fv : Value) :
    CtAt ((((((w.setCell ⟨K, 0, none⟩ (.int .i64 a0)).setCell ⟨K, 1, none⟩ (.int .i64 a1)).setCell ⟨K, 2, none⟩ (.int .i64 a2)).setCell ⟨K, 3, none⟩ (.int .i64 a3)).setCell ⟨K, 4, none⟩ (.int .i64 a4)).setCell ⟨K, 5, none⟩ fv) K [a0, a1, a2, a3, a4] fv ∧
    Turn (fun k => k = K) w ((((((w.setCell ⟨K, 0, none⟩ (.int .i64 a0)).setCell ⟨K, 1, none⟩ (.int .i64 a1)).setCell ⟨K, 2, none⟩ (.int .i64 a2)).setCell ⟨K, 3, none⟩ (.int .i64 a3)).setCell ⟨K, 4, none⟩ (.int .i64 a4)).setCell ⟨K, 5, none⟩ fv) := by
  have so : ∀ (W : World) (i j : Nat) (x v : Value), i ≠ j → W.cell? ⟨K, i, none⟩ = some v → (W.setCell ⟨K, j, none⟩ x).cell? ⟨K, i, none⟩ = some v := fun W i j x v hij hc => (World.cell?_setCell_other _ _ _ _ (by simp)).trans hc
  have ss : ∀ (W : World) (i : Nat) (x v : Value), W.cell? ⟨K, i, none⟩ = some v → (W.setCell ⟨K, i, none⟩ x).cell? ⟨K, i, none⟩ = some x := fun W i x v hc => World.cell?_setCell_same _ _ _ hc
  refine ⟨⟨fun i x hx => ?_, ?_⟩, ?_⟩
  · match i, hx with
    | 0, hx => cases hx; exact so _ _ _ _ _ (by decide) (so _ _ _ _ _ (by decide) (so _ _ _ _ _ (by decide) (so _ _ _ _ _ (by decide) (so _ _ _ _ _ (by decide) (ss _ _ _ _ e0)))))
    | 1, hx => cases hx; exact so _ _ _ _ _ (by decide) (so _ _ _ _ _ (by decide) (so _ _ _ _ _ (by decide) (so _ _ _ _ _ (by decide) (ss _ _ _ _ (so _ _ _ _ _ (by decide) e1)))))
    | 2, hx => cases hx; exact so _ _ _ _ _ (by decide) (so _ _ _ _ _ (by decide) (so _ _ _ _ _ (by decide) (ss _ _ _ _ (so _ _ _ _ _ (by decide) (so _ _ _ _ _ (by decide) e2)))))
    | 3, hx => cases hx; exact so _ _ _ _ _ (by decide) (so _ _ _ _ _ (by decide) (ss _ _ _ _ (so _ _ _ _ _ (by decide) (so _ _ _ _ _ (by decide) (so _ _ _ _ _ (by decide) e3)))))
    | 4, hx => cases hx; exact so _ _ _ _ _ (by decide) (ss _ _ _ _ (so _ _ _ _ _ (by decide) (so _ _ _ _ _ (by decide) (so _ _ _ _ _ (by decide) (so _ _ _ _ _ (by decide) e4)))))
    | k + 5, hx => simp at hx
  · exact ss _ _ _ _ (so _ _ _ _ _ (by decide) (so _ _ _ _ _ (by decide) (so _ _ _ _ _ (by decide) (so _ _ _ _ _ (by decide) (so _ _ _ _ _ (by decide) e5)))))
  · exact ((((((Turn.refl (fun k => k = K) w).setCell (p := ⟨K, 0, none⟩) rfl _).setCell (p := ⟨K, 1, none⟩) rfl _).setCell (p := ⟨K, 2, none⟩) rfl _).setCell (p := ⟨K, 3, none⟩) rfl _).setCell (p := ⟨K, 4, none⟩) rfl _).setCell (p := ⟨K, 5, none⟩) rfl _
theorem look_results {tmps : Array Value} {w : World} {K : Nat} {e : Int} {a0 a1 a2 a3 a4 : Int} {fv : Value} (h2 : tmps.getD 2 undef = .pointer (some ⟨K, 0, none⟩)) (h3 : tmps.getD 3 undef = .int .i64 e) (h : CtAt w K [a0, a1, a2, a3, a4] fv) :
    (results Tryz.f16 tmps).run Tryz.prog w = .ok (.tuple #[.agg #[.int .i64 a0, .int .i64 a1, .int .i64 a2, .int .i64 a3, .int .i64 a4, fv], .int .i64 e]) w := by
  have h2' : tmps[2]?.getD undef = .pointer (some ⟨K, 0, none⟩) := by simpa using h2
  have h3' : tmps[3]?.getD undef = .int .i64 e := by simpa using h3
  have c0 := h.c 0 a0 rfl
  have c1 := h.c 1 a1 rfl
  have c2 := h.c 2 a2 rfl
  have c3 := h.c 3 a3 rfl
  have c4 := h.c 4 a4 rfl
  have c5 := h.v
  simp [results, Tryz.f16, go_sem, h2', h3', c0, c1, c2, c3, c4, c5, asAddr]

set_option maxHeartbeats 16000000 in
theorem audit_look (d m r0 : Nat) (cnt : Int) (v0 : Value) (l : List UInt8) (w : World) (h : DiskAt w d m (some v0) cnt) (hv : BytesOff w r0 I v0 l) (hl : l.length ≤ 1000000) :
    Calls Tryz.prog 16 #[.pointer (some ⟨d, 0, none⟩)] w fun e w' => (∃ a0 a1 a2 a3 a4, e = .returned (.tuple #[.agg #[.int .i64 a0, .int .i64 a1, .int .i64 a2, .int .i64 a3, .int .i64 a4, .slice none 0 0], .int .i64 (openF l)]) ∧ (openF l ≠ 0 → a0 = 0 ∧ a1 = 0 ∧ a2 = 0 ∧ a3 = 0 ∧ a4 = 0)) ∧ Turn (fun _ => False) w w' := by
  obtain ⟨PO, hPO⟩ : ∃ PO : Ending → World → Prop, PO = fun e w' => (∃ a0 a1 a2 a3 a4, e = .returned (.tuple #[.agg #[.int .i64 a0, .int .i64 a1, .int .i64 a2, .int .i64 a3, .int .i64 a4, .slice none 0 0], .int .i64 (openF l)]) ∧ (openF l ≠ 0 → a0 = 0 ∧ a1 = 0 ∧ a2 = 0 ∧ a3 = 0 ∧ a4 = 0)) ∧ Turn (fun _ => False) w w' := ⟨_, rfl⟩
  rw [← hPO]
  have HPO := Hid.mk' hPO
  clear hPO
  refine (callsIn_wide (n := 3)).1 ?_
  refine callsIn_of_wp_marks Tryz.func16 rfl trivial ?_ rfl
  simp only [Tryz.ntmps16, List.size_toArray, List.length_cons, List.length_nil, Nat.reduceAdd, Nat.reduceSub, Array.replicate_succ, Array.replicate_zero, List.push_toArray, List.append_toArray, List.nil_append, List.cons_append]
  gi_wp2_with (fail)
  obtain ⟨K, hK⟩ : ∃ K, K = w.heap.size := ⟨_, rfl⟩
  obtain ⟨w0, hw0⟩ : ∃ w0, w0 = w.alloc (Obj.cells #[.int .i64 0, .int .i64 0, .int .i64 0, .int .i64 0, .int .i64 0, .slice none 0 0] 54) := ⟨_, rfl⟩
  have hT0 : Turn (fun _ => False) w w0 := by rw [hw0]; exact (Turn.refl _ _).alloc _
  have hc0 : ∀ k v, #[Value.int .i64 0, .int .i64 0, .int .i64 0, .int .i64 0, .int .i64 0, .slice none 0 0][k]? = some v → w0.cell? ⟨K, k, none⟩ = some v := fun k v hk => by rw [hw0, hK]; exact row_cell _ _ _ k _ hk
  have hf0 : ∀ k, w0.frozen? ⟨K, k, none⟩ = false := fun k => by rw [hw0, hK]; exact World.frozen?_alloc_at _ _ _ _ rfl
  have hs0 : w0.heap.size = K + 1 := by rw [hw0, hK]; exact World.size_alloc _ _
  rw [← hw0, ← hK]
  have HK := Hid.mk' hK
  have D0 := h.turn hT0 id id
  have B0 := hT0.bytes hv (fun _ _ _ => id)
  clear h hv hw0 hK
  refine ⟨trivial, callsIn_wide.2 ((copy_any d m r0 cnt v0 l w0 D0 B0 hl).mono ?_)⟩
  rintro e w1 ⟨d2, m2, v2, rfl, D1, B1, hd2, hm2, hv2, T1⟩
  have HT1 : Hid (Turn (fun _ => False) w w1) := hT0.trans T1
  have HC1 : Hid (∀ k v, #[Value.int .i64 0, .int .i64 0, .int .i64 0, .int .i64 0, .int .i64 0, .slice none 0 0][k]? = some v → w1.cell? ⟨K, k, none⟩ = some v) := fun k v hk => T1.cell (hc0 k v hk) id
  have HF1 : Hid (∀ k, w1.frozen? ⟨K, k, none⟩ = false) := fun k => (T1.frozen (p := ⟨K, k, none⟩) (by show K < w0.heap.size; omega) id).trans (hf0 k)
  have hKd : K < d2 ∧ K < m2 := by omega
  clear D0 B0 T1 hT0 hc0 hf0 hs0 hd2 hm2 hv2
  gi_wp2_with (fail)
  refine ⟨trivial, callsIn_wide.2 ((sopen_any d2 m2 0 v2 l w1 D1 (by omega) B1 hl).mono ?_)⟩
  rintro e w2 ⟨T2, hq⟩
  have HT2 : Hid (Turn (fun k => k = m2 ∨ k = d2) w1 w2) := T2
  have hKn : ¬ (K = m2 ∨ K = d2) := by omega
  have HC2 : Hid (∀ k v, #[Value.int .i64 0, .int .i64 0, .int .i64 0, .int .i64 0, .int .i64 0, .slice none 0 0][k]? = some v → w2.cell? ⟨K, k, none⟩ = some v) := fun k v hk => T2.cell (HC1.out k v hk) hKn
  have HF2 : Hid (∀ k, w2.frozen? ⟨K, k, none⟩ = false) := fun k => by
    have hlt : K < w1.heap.size := World.block_lt_of_cell? _ _ (HC1.out 0 _ rfl)
    exact (T2.frozen (p := ⟨K, k, none⟩) hlt hKn).trans (HF1.out k)
  have HL : Hid (w.heap.size ≤ d2 ∧ w.heap.size ≤ m2) := by have := HK.out; exact ⟨by omega, by omega⟩
  have HTT : Hid (Turn (fun _ => False) w w2) := (((HT1.out.mono (S' := fun k => k = m2 ∨ k = d2) (fun _ _ h => h.elim)).trans T2).mono (fun k hk h => by have := HL.out; omega))
  clear D1 B1 T2 HC1 HF1
  by_cases ho : openF l = 0
  · rw [if_pos ho] at hq
    obtain ⟨s, j, mp, B, vi, ids, v', cnt', l', rfl, hst, D2, hl', B2⟩ := hq
    obtain ⟨av, cv, hvv⟩ := B2.len
    have h1 : v'.oneCell' = true := by rw [hvv]; rfl
    have hl2 : l'.length ≤ 1000000 := by omega
    have HO := Hid.mk' ho
    clear ho hvv hl'
    gi_wp2_with (fail)
    refine ⟨trivial, callsIn_wide.2 ((ropen_any d2 m2 cnt' (some v') w2 D2).mono ?_)⟩
    rintro e w3 ⟨r, mq, rfl, hrf, hr1, hr2, T3⟩
    have D3 := D2.turn T3 id id
    have B3 := T3.bytes B2 (fun _ _ _ => id)
    have st3 := hst.turn T3 id id (fun _ _ => id)
    have HC3 : Hid (∀ k v, #[Value.int .i64 0, .int .i64 0, .int .i64 0, .int .i64 0, .int .i64 0, .slice none 0 0][k]? = some v → w3.cell? ⟨K, k, none⟩ = some v) := fun k v hk => T3.cell (HC2.out k v hk) id
    have HF3 : Hid (∀ k, w3.frozen? ⟨K, k, none⟩ = false) := fun k => (T3.frozen (p := ⟨K, k, none⟩) (World.block_lt_of_cell? w2 ⟨K, 0, none⟩ (HC2.out 0 _ rfl)) id).trans (HF2.out k)
    have HT3 : Hid (Turn (fun _ => False) w w3) := HTT.out.trans T3
    clear D2 B2 hst T3 HC2 HF2 HTT HT1 HT2 hr1 hr2
    have HB : ∀ W, Turn (fun _ => False) w3 W → Hid (DiskAt W d2 m2 (some v') cnt' ∧ BytesOff W d2 (fun _ => True) v' l' ∧ StAt W s j mp B vi ids ∧ RfAt W r mq ∧ (∀ k v, #[Value.int .i64 0, .int .i64 0, .int .i64 0, .int .i64 0, .int .i64 0, .slice none 0 0][k]? = some v → W.cell? ⟨K, k, none⟩ = some v) ∧ (∀ k, W.frozen? ⟨K, k, none⟩ = false) ∧ Turn (fun _ => False) w W) := fun W T =>
      ⟨D3.turn T id id, T.bytes B3 (fun _ _ _ => id), st3.turn T id id (fun _ _ => id), hrf.turn T id id, fun k v hk => T.cell (HC3.out k v hk) id, fun k => (T.frozen (p := ⟨K, k, none⟩) (World.block_lt_of_cell? w3 ⟨K, 0, none⟩ (HC3.out 0 _ rfl)) id).trans (HF3.out k), HT3.out.trans T⟩
    have HBB := Hid.mk' HB
    clear HB D3 B3 st3 hrf HC3 HF3 HT3
    have hmm := @run_makeMap Tryz.prog
    gi_wp2_with (fail)
    clear hmm
    have T4 : Turn (fun _ => False) w3 ((w3.alloc (.map #[] 0)).alloc (Obj.cells #[Value.map (some w3.heap.size)] 98)) := ((Turn.refl _ _).alloc _).alloc _
    generalize (w3.alloc (.map #[] 0)).alloc (Obj.cells #[Value.map (some w3.heap.size)] 98) = w4 at T4 ⊢
    refine ⟨trivial, callsIn_wide.2 ((texts_any d2 w4).mono ?_)⟩
    rintro e w5 ⟨rfl, hw5⟩
    have T5 : Turn (fun _ => False) w3 w5 := by rw [hw5]; exact T4.alloc _
    have hb5 : w5.cell? ⟨w4.heap.size, 0, none⟩ = some (.pointer (some ⟨d2, 0, none⟩)) := by rw [hw5]; exact row_cell _ _ _ 0 _ rfl
    clear T4 hw5
    gi_wp2_with (fail)
    refine range_none rfl (fun args w => enters_of Tryz.func64 (by kernel_rfl) rfl args w) (fun ly W T => texts1_any (I := fun _ => True) ly _ d2 m2 d2 cnt' v' l' W (T.cell hb5 id) (HBB.out W (T5.trans T)).out.1 (HBB.out W (T5.trans T)).out.2.1 hl2) ?_
    intro W T hdf
    have T6 := Hid.mk' (T5.trans T)
    have hdl := (Array.getElem?_eq_some_iff.1 hdf).1
    have HD := Hid.mk' (And.intro hdf hdl)
    have HWw5 : Hid (w.heap.size ≤ w5.heap.size) := (HBB.out w5 T5).out.2.2.2.2.2.2.size
    clear T T5 hdf hdl hb5
    gi_wp2_with (fail)
    refine ⟨trivial, callsIn_wide.2 ((slen_any s j mp B vi ids W (HBB.out W T6.out).out.2.2.1).mono ?_)⟩
    rintro e W2 ⟨⟨n1, rfl⟩, rfl⟩
    gi_wp2_with (fail)
    refine ⟨trivial, callsIn_wide.2 ((rlen_any r mq W2 (HBB.out W2 T6.out).out.2.2.2.1).mono ?_)⟩
    rintro e W3 ⟨⟨n2, rfl⟩, rfl⟩
    gi_wp2_with (fail)
    refine ⟨trivial, callsIn_wide.2 ((arefs_any s r mq W3 (HBB.out W3 T6.out).out.2.2.2.1).mono ?_)⟩
    rintro e W4 ⟨rfl, T4⟩
    have T7 : Hid (Turn (fun _ => False) w3 W4) := T6.out.trans T4
    have HD4 : Hid (W4.heap[w5.heap.size]? = some (.deferred (some [])) ∧ w5.heap.size < W4.heap.size) := ⟨(T4.block _ HD.out.2 id).trans HD.out.1, Nat.lt_of_lt_of_le HD.out.2 T4.size⟩
    clear T4
    gi_wp2_with (fail)
    obtain ⟨Z, hZ⟩ : ∃ Z, Z = W4.heap.size := ⟨_, rfl⟩
    have HZw : Hid (w.heap.size ≤ Z) := by have := (HBB.out W4 T7.out).out.2.2.2.2.2.2.size; show _ ≤ _; omega
    have HDw : Hid (w.heap.size ≤ w5.heap.size) := HWw5.out
    have hKZ : K ≠ Z := by
      have := World.block_lt_of_cell? W4 ⟨K, 0, none⟩ ((HBB.out W4 T7.out).out.2.2.2.2.1 0 _ rfl)
      intro e
      have h2 : K < W4.heap.size := this
      omega
    have T8 : Turn (fun _ => False) W4 (W4.alloc (Obj.cells #[.int .i64 n1, .int .i64 n2, .int .i64 0, .int .i64 0, .int .i64 0, .slice none 0 0] 54)) := (Turn.refl _ _).alloc _
    have zc : ∀ k v, #[Value.int .i64 n1, .int .i64 n2, .int .i64 0, .int .i64 0, .int .i64 0, .slice none 0 0][k]? = some v → (W4.alloc (Obj.cells #[.int .i64 n1, .int .i64 n2, .int .i64 0, .int .i64 0, .int .i64 0, .slice none 0 0] 54)).cell? ⟨Z, k, none⟩ = some v := fun k v hk => by rw [hZ]; exact row_cell _ _ _ k _ hk
    have zf : ∀ k, (W4.alloc (Obj.cells #[.int .i64 n1, .int .i64 n2, .int .i64 0, .int .i64 0, .int .i64 0, .slice none 0 0] 54)).frozen? ⟨Z, k, none⟩ = false := fun k => by rw [hZ]; exact World.frozen?_alloc_at _ _ _ _ rfl
    rw [← hZ]
    generalize W4.alloc (Obj.cells #[.int .i64 n1, .int .i64 n2, .int .i64 0, .int .i64 0, .int .i64 0, .slice none 0 0] 54) = W5 at T8 zc zf ⊢
    refine ⟨trivial, callsIn_wide.2 ((keys_any d2 m2 cnt' v' W5 (HBB.out W5 (T7.out.trans T8)).out.1 h1).mono ?_)⟩
    rintro e W6 ⟨rfl, T9⟩
    have hZ5 : Z < W5.heap.size := World.block_lt_of_cell? _ ⟨Z, 0, none⟩ (zc 0 _ rfl)
    have c0 := T9.cell (zc 0 _ rfl) id
    have c1 := T9.cell (zc 1 _ rfl) id
    have c2 := T9.cell (zc 2 _ rfl) id
    have c3 := T9.cell (zc 3 _ rfl) id
    have c4 := T9.cell (zc 4 _ rfl) id
    have c5 := T9.cell (zc 5 _ rfl) id
    have y4 := (T9.frozen (p := ⟨Z, 4, none⟩) hZ5 id).trans (zf 4)
    obtain ⟨HBd, HBb, HBs, HBr, kc, kf, HTw⟩ := (HBB.out W6 ((T7.out.trans T8).trans T9)).out
    have k0 := kc 0 _ rfl
    have k1 := kc 1 _ rfl
    have k2 := kc 2 _ rfl
    have k3 := kc 3 _ rfl
    have k4 := kc 4 _ rfl
    have k5 := kc 5 _ rfl
    have x0 := kf 0
    have x1 := kf 1
    have x2 := kf 2
    have x3 := kf 3
    have x4 := kf 4
    have x5 := kf 5
    have HTw' := Hid.mk' HTw
    have HD6 : Hid (W6.heap[w5.heap.size]? = some (.deferred (some []))) := (T9.block _ (Nat.lt_of_lt_of_le HD4.out.2 T8.size) id).trans ((T8.block _ HD4.out.2 id).trans HD4.out.1)
    clear HBd HBb HBs HBr kc kf HTw T8 T9 zc zf hZ hZ5
    gi_wp2_with (fail)
    refine Go.wpIn_loop_rounds 1 ?_
    rw [Go.roundsIn_succ]
    gi_wp2_with (fail)
    have so : ∀ (i : Nat) (v : Value), W6.cell? ⟨K, i, none⟩ = some v → (W6.setCell ⟨Z, 4, none⟩ (.int .i64 0)).cell? ⟨K, i, none⟩ = some v := fun i v hc => (World.cell?_setCell_other _ _ _ _ (by simp [hKZ])).trans hc
    have hDK : w5.heap.size ≠ K := fun e => by
      have := HD6.out
      simp [World.cell?, ← e, this] at k0
    have hDZ : w5.heap.size ≠ Z := fun e => by
      have := HD6.out
      simp [World.cell?, ← e, this] at c0
    obtain ⟨hct, hT⟩ := six (so 0 _ k0) (so 1 _ k1) (so 2 _ k2) (so 3 _ k3) (so 4 _ k4) (so 5 _ k5) n1 n2 0 0 0 (.slice none 0 0)
    have TZ : Turn (fun k => k = Z) W6 (W6.setCell ⟨Z, 4, none⟩ (.int .i64 0)) := (Turn.refl (fun k => k = Z) W6).setCell (p := ⟨Z, 4, none⟩) rfl _
    have hlt6 : w5.heap.size < W6.heap.size := (Array.getElem?_eq_some_iff.1 HD6.out).1
    have hd7 := (hT.block w5.heap.size (Nat.lt_of_lt_of_le hlt6 TZ.size) hDK).trans ((TZ.block w5.heap.size hlt6 hDZ).trans HD6.out)
    have hZw : w.heap.size ≤ Z := HZw.out
    have hDw : w.heap.size ≤ w5.heap.size := HDw.out
    have TP := putObj_turn ((((((((W6.setCell ⟨Z, 4, none⟩ (.int .i64 0)).setCell ⟨K, 0, none⟩ (.int .i64 n1)).setCell ⟨K, 1, none⟩ (.int .i64 n2)).setCell ⟨K, 2, none⟩ (.int .i64 0)).setCell ⟨K, 3, none⟩ (.int .i64 0)).setCell ⟨K, 4, none⟩ (.int .i64 0)).setCell ⟨K, 5, none⟩ (.slice none 0 0))) w5.heap.size (.deferred none)
    refine ⟨by simp, .inl ⟨_, _, rfl, run_takeDeferred hd7, ⟨_, look_results rfl rfl (hct.turn TP (Ne.symm hDK)), ?_⟩⟩⟩
    rw [HPO.out, HO.out]
    refine ⟨⟨n1, n2, 0, 0, 0, rfl, fun h => absurd rfl h⟩, ?_⟩
    have hKw := HK.out
    exact ((((HTw'.out.mono (S' := fun k => w.heap.size ≤ k) (fun _ _ h => h.elim)).trans (TZ.mono (fun k _ e => by omega))).trans (hT.mono (fun k _ e => by omega))).trans (TP.mono (fun k _ e => by omega))).mono (fun k hk e => by omega)
  · rw [if_neg ho] at hq
    subst hq
    have f0 := HF2.out 0
    have f1 := HF2.out 1
    have f2 := HF2.out 2
    have f3 := HF2.out 3
    have f4 := HF2.out 4
    have f5 := HF2.out 5
    have e0 := HC2.out 0 _ rfl
    have e1 := HC2.out 1 _ rfl
    have e2 := HC2.out 2 _ rfl
    have e3 := HC2.out 3 _ rfl
    have e4 := HC2.out 4 _ rfl
    have e5 := HC2.out 5 _ rfl
    have hob : (openF l == 0) = false := by simpa using ho
    gi_wp2_with (fail)
    obtain ⟨hct, hT⟩ := six e0 e1 e2 e3 e4 e5 0 0 0 0 0 (.slice none 0 0)
    refine ⟨_, look_results rfl rfl hct, ?_⟩
    rw [HPO.out]
    exact ⟨⟨0, 0, 0, 0, 0, rfl, fun _ => ⟨rfl, rfl, rfl, rfl, rfl⟩⟩, ((HTT.out.mono (S' := fun k => k = K) (fun _ _ h => h.elim)).trans hT).mono (fun k hk e => by have := HK.out; omega)⟩
end Go.Proofs

namespace Go.Proofs
open Go.Shelf Go.RowKit Go.Lib
variable {I S : Nat → Prop}
attribute [local go_sem] Oper.semAt_some
set_option maxRecDepth 1000000

/-- What look answers. -/
def LookRet (w : World) (E : Int) (e : Ending) (w' : World) : Prop :=
  (∃ a0 a1 a2 a3 a4, e = .returned (.tuple #[.agg #[.int .i64 a0, .int .i64 a1, .int .i64 a2, .int .i64 a3, .int .i64 a4, .slice none 0 0], .int .i64 E]) ∧ (E ≠ 0 → a0 = 0 ∧ a1 = 0 ∧ a2 = 0 ∧ a3 = 0 ∧ a4 = 0)) ∧ Turn (fun _ => False) w w'

set_option maxHeartbeats 8000000 in
theorem look_nil (w : World) : Calls Tryz.prog 16 #[.pointer none] w (LookRet w 1) := by
  obtain ⟨PO, hPO⟩ : ∃ PO : Ending → World → Prop, PO = LookRet w 1 := ⟨_, rfl⟩
  rw [← hPO]
  have HPO := Hid.mk' hPO
  clear hPO
  refine (callsIn_wide (n := 3)).1 ?_
  refine callsIn_of_wp_marks Tryz.func16 rfl trivial ?_ rfl
  simp only [Tryz.ntmps16, List.size_toArray, List.length_cons, List.length_nil, Nat.reduceAdd, Nat.reduceSub, Array.replicate_succ, Array.replicate_zero, List.push_toArray, List.append_toArray, List.nil_append, List.cons_append]
  gi_wp2_with (fail)
  have hct : CtAt (w.alloc (Obj.cells #[.int .i64 0, .int .i64 0, .int .i64 0, .int .i64 0, .int .i64 0, .slice none 0 0] 54)) w.heap.size [0, 0, 0, 0, 0] (.slice none 0 0) := by
    refine ⟨fun i x hx => ?_, row_cell _ _ _ 5 _ rfl⟩
    refine row_cell _ _ _ i _ ?_
    match i, hx with
    | 0, hx => cases hx; rfl
    | 1, hx => cases hx; rfl
    | 2, hx => cases hx; rfl
    | 3, hx => cases hx; rfl
    | 4, hx => cases hx; rfl
    | k + 5, hx => simp at hx
  refine ⟨_, look_results rfl rfl hct, ?_⟩
  rw [HPO.out]
  exact ⟨⟨0, 0, 0, 0, 0, rfl, fun _ => ⟨rfl, rfl, rfl, rfl, rfl⟩⟩, (Turn.refl _ _).alloc _⟩

set_option maxHeartbeats 8000000 in
theorem adisk_any (p : Value) (E : Int) (w : World) (hp : ∃ q, p = .pointer q) (h : Calls Tryz.prog 16 #[p] w (LookRet w E)) : Calls Tryz.prog 5 #[p] w fun e w' => e = .returned (.tuple #[.slice none 0 0, .int .i64 E]) ∧ Turn (fun _ => False) w w' := by
  obtain ⟨q, rfl⟩ := hp
  go_enter Tryz.func5, Tryz.ntmps5
  go_wp2_with (fail)
  refine h.mono ?_
  rintro e w1 ⟨⟨a0, a1, a2, a3, a4, rfl, _⟩, T⟩
  go_wp2_with (fail)
  go_ret2
  exact ⟨rfl, T.alloc _⟩

theorem count_results {tmps : Array Value} {w : World} {K : Nat} {e : Int} {a0 a1 a2 a3 a4 : Int} (h2 : tmps.getD 2 undef = .pointer (some ⟨K, 0, none⟩)) (h3 : tmps.getD 3 undef = .int .i64 e) (c0 : w.cell? ⟨K, 0, none⟩ = some (.int .i64 a0)) (c1 : w.cell? ⟨K, 1, none⟩ = some (.int .i64 a1)) (c2 : w.cell? ⟨K, 2, none⟩ = some (.int .i64 a2)) (c3 : w.cell? ⟨K, 3, none⟩ = some (.int .i64 a3)) (c4 : w.cell? ⟨K, 4, none⟩ = some (.int .i64 a4)) :
    (results Tryz.f6 tmps).run Tryz.prog w = .ok (.tuple #[.agg #[.int .i64 a0, .int .i64 a1, .int .i64 a2, .int .i64 a3, .int .i64 a4], .int .i64 e]) w := by
  have h2' : tmps[2]?.getD undef = .pointer (some ⟨K, 0, none⟩) := by simpa using h2
  have h3' : tmps[3]?.getD undef = .int .i64 e := by simpa using h3
  simp [results, Tryz.f6, go_sem, h2', h3', c0, c1, c2, c3, c4, asAddr]

set_option maxHeartbeats 8000000 in
theorem acount_any (p : Value) (E : Int) (w : World) (hp : ∃ q, p = .pointer q) (h : ∀ W, Turn (fun _ => False) w W → Calls Tryz.prog 16 #[p] W (LookRet W E)) : Calls Tryz.prog 6 #[p] w fun e w' => (∃ a0 a1 a2 a3 a4, e = .returned (.tuple #[.agg #[.int .i64 a0, .int .i64 a1, .int .i64 a2, .int .i64 a3, .int .i64 a4], .int .i64 E]) ∧ (E ≠ 0 → a0 = 0 ∧ a1 = 0 ∧ a2 = 0 ∧ a3 = 0 ∧ a4 = 0)) ∧ Turn (fun _ => False) w w' := by
  obtain ⟨q, rfl⟩ := hp
  go_enter Tryz.func6, Tryz.ntmps6
  go_wp2_with (fail)
  obtain ⟨K, hK⟩ : ∃ K, K = w.heap.size := ⟨_, rfl⟩
  obtain ⟨w0, hw0⟩ : ∃ w0, w0 = w.alloc (Obj.cells #[.int .i64 0, .int .i64 0, .int .i64 0, .int .i64 0, .int .i64 0] 29) := ⟨_, rfl⟩
  have T0 : Turn (fun _ => False) w w0 := by rw [hw0]; exact (Turn.refl _ _).alloc _
  have hc0 : ∀ k v, #[Value.int .i64 0, .int .i64 0, .int .i64 0, .int .i64 0, .int .i64 0][k]? = some v → w0.cell? ⟨K, k, none⟩ = some v := fun k v hk => by rw [hw0, hK]; exact row_cell _ _ _ k _ hk
  have hf0 : ∀ k, w0.frozen? ⟨K, k, none⟩ = false := fun k => by rw [hw0, hK]; exact World.frozen?_alloc_at _ _ _ _ rfl
  have hlt : K < w0.heap.size := World.block_lt_of_cell? w0 ⟨K, 0, none⟩ (hc0 0 _ rfl)
  rw [← hw0, ← hK]
  have HK := Hid.mk' hK
  clear hw0 hK
  refine (h w0 T0).mono ?_
  rintro e w1 ⟨⟨a0, a1, a2, a3, a4, rfl, hz⟩, T⟩
  have HZ := Hid.mk' hz
  have HT := Hid.mk' (T0.trans T)
  have al : ∀ o, Turn (fun _ => False) w0 (w1.alloc o) := fun o => T.alloc o
  have k0 : ∀ o, (w1.alloc o).cell? ⟨K, 0, none⟩ = some (.int .i64 0) := fun o => (al o).cell (hc0 0 _ rfl) id
  have k1 : ∀ o, (w1.alloc o).cell? ⟨K, 1, none⟩ = some (.int .i64 0) := fun o => (al o).cell (hc0 1 _ rfl) id
  have k2 : ∀ o, (w1.alloc o).cell? ⟨K, 2, none⟩ = some (.int .i64 0) := fun o => (al o).cell (hc0 2 _ rfl) id
  have k3 : ∀ o, (w1.alloc o).cell? ⟨K, 3, none⟩ = some (.int .i64 0) := fun o => (al o).cell (hc0 3 _ rfl) id
  have k4 : ∀ o, (w1.alloc o).cell? ⟨K, 4, none⟩ = some (.int .i64 0) := fun o => (al o).cell (hc0 4 _ rfl) id
  have x0 : ∀ o, (w1.alloc o).frozen? ⟨K, 0, none⟩ = false := fun o => ((al o).frozen (p := ⟨K, 0, none⟩) hlt id).trans (hf0 0)
  have x1 : ∀ o, (w1.alloc o).frozen? ⟨K, 1, none⟩ = false := fun o => ((al o).frozen (p := ⟨K, 1, none⟩) hlt id).trans (hf0 1)
  have x2 : ∀ o, (w1.alloc o).frozen? ⟨K, 2, none⟩ = false := fun o => ((al o).frozen (p := ⟨K, 2, none⟩) hlt id).trans (hf0 2)
  have x3 : ∀ o, (w1.alloc o).frozen? ⟨K, 3, none⟩ = false := fun o => ((al o).frozen (p := ⟨K, 3, none⟩) hlt id).trans (hf0 3)
  have x4 : ∀ o, (w1.alloc o).frozen? ⟨K, 4, none⟩ = false := fun o => ((al o).frozen (p := ⟨K, 4, none⟩) hlt id).trans (hf0 4)
  clear T0 hc0 hf0 T hz al hlt h
  go_wp2_with (fail)
  obtain ⟨W, hW⟩ : ∃ W, W = w1.alloc (Obj.cells #[.int .i64 a0, .int .i64 a1, .int .i64 a2, .int .i64 a3, .int .i64 a4, .slice none 0 0] 54) := ⟨_, rfl⟩
  have TW : Turn (fun _ => False) w W := by rw [hW]; exact HT.out.alloc _
  rw [← hW]
  have so : ∀ (W : World) (i j : Nat) (x v : Value), i ≠ j → W.cell? ⟨K, i, none⟩ = some v → (W.setCell ⟨K, j, none⟩ x).cell? ⟨K, i, none⟩ = some v := fun W i j x v hij hc => (World.cell?_setCell_other _ _ _ _ (by simp)).trans hc
  have ss : ∀ (W : World) (i : Nat) (x v : Value), W.cell? ⟨K, i, none⟩ = some v → (W.setCell ⟨K, i, none⟩ x).cell? ⟨K, i, none⟩ = some x := fun W i x v hc => World.cell?_setCell_same _ _ _ hc
  have e0 : W.cell? ⟨K, 0, none⟩ = some (.int .i64 0) := by rw [hW]; exact k0 _
  have e1 : W.cell? ⟨K, 1, none⟩ = some (.int .i64 0) := by rw [hW]; exact k1 _
  have e2 : W.cell? ⟨K, 2, none⟩ = some (.int .i64 0) := by rw [hW]; exact k2 _
  have e3 : W.cell? ⟨K, 3, none⟩ = some (.int .i64 0) := by rw [hW]; exact k3 _
  have e4 : W.cell? ⟨K, 4, none⟩ = some (.int .i64 0) := by rw [hW]; exact k4 _
  refine bodyPost_ret (count_results (K := K) rfl rfl
    (so _ _ _ _ _ (by decide) (so _ _ _ _ _ (by decide) (so _ _ _ _ _ (by decide) (so _ _ _ _ _ (by decide) (ss _ _ _ _ e0)))))
    (so _ _ _ _ _ (by decide) (so _ _ _ _ _ (by decide) (so _ _ _ _ _ (by decide) (ss _ _ _ _ (so _ _ _ _ _ (by decide) e1)))))
    (so _ _ _ _ _ (by decide) (so _ _ _ _ _ (by decide) (ss _ _ _ _ (so _ _ _ _ _ (by decide) (so _ _ _ _ _ (by decide) e2)))))
    (so _ _ _ _ _ (by decide) (ss _ _ _ _ (so _ _ _ _ _ (by decide) (so _ _ _ _ _ (by decide) (so _ _ _ _ _ (by decide) e3)))))
    (ss _ _ _ _ (so _ _ _ _ _ (by decide) (so _ _ _ _ _ (by decide) (so _ _ _ _ _ (by decide) (so _ _ _ _ _ (by decide) e4)))))) rfl ?_
  refine ⟨⟨a0, a1, a2, a3, a4, rfl, HZ.out⟩, ?_⟩
  have hKw := HK.out
  exact ((TW.mono (S' := fun k => k = K) (fun _ _ h => h.elim)).trans ((((((Turn.refl (fun k => k = K) W).setCell (p := ⟨K, 0, none⟩) rfl _).setCell (p := ⟨K, 1, none⟩) rfl _).setCell (p := ⟨K, 2, none⟩) rfl _).setCell (p := ⟨K, 3, none⟩) rfl _).setCell (p := ⟨K, 4, none⟩) rfl _)).mono (fun k hk e => by omega)
end Go.Proofs

namespace Go.Proofs
open Go.Shelf Go.RowKit Go.Lib
variable {I S : Nat → Prop}
attribute [local go_sem] Oper.semAt_some
set_option maxRecDepth 1000000

theorem five {w : World} {K : Nat} {v0 v1 v2 v3 v4 : Value} (e0 : w.cell? ⟨K, 0, none⟩ = some v0) (e1 : w.cell? ⟨K, 1, none⟩ = some v1) (e2 : w.cell? ⟨K, 2, none⟩ = some v2) (e3 : w.cell? ⟨K, 3, none⟩ = some v3) (e4 : w.cell? ⟨K, 4, none⟩ = some v4) (a0 a1 a2 a3 a4 : Int) :
    (let W := (((((w.setCell ⟨K, 0, none⟩ (.int .i64 a0)).setCell ⟨K, 1, none⟩ (.int .i64 a1)).setCell ⟨K, 2, none⟩ (.int .i64 a2)).setCell ⟨K, 3, none⟩ (.int .i64 a3)).setCell ⟨K, 4, none⟩ (.int .i64 a4))
    W.cell? ⟨K, 0, none⟩ = some (.int .i64 a0) ∧ W.cell? ⟨K, 1, none⟩ = some (.int .i64 a1) ∧ W.cell? ⟨K, 2, none⟩ = some (.int .i64 a2) ∧ W.cell? ⟨K, 3, none⟩ = some (.int .i64 a3) ∧ W.cell? ⟨K, 4, none⟩ = some (.int .i64 a4) ∧ Turn (fun k => k = K) w W) := by
  have so : ∀ (W : World) (i j : Nat) (x v : Value), i ≠ j → W.cell? ⟨K, i, none⟩ = some v → (W.setCell ⟨K, j, none⟩ x).cell? ⟨K, i, none⟩ = some v := fun W i j x v hij hc => (World.cell?_setCell_other _ _ _ _ (by simp)).trans hc
  have ss : ∀ (W : World) (i : Nat) (x v : Value), W.cell? ⟨K, i, none⟩ = some v → (W.setCell ⟨K, i, none⟩ x).cell? ⟨K, i, none⟩ = some x := fun W i x v hc => World.cell?_setCell_same _ _ _ hc
  exact ⟨so _ _ _ _ _ (by decide) (so _ _ _ _ _ (by decide) (so _ _ _ _ _ (by decide) (so _ _ _ _ _ (by decide) (ss _ _ _ _ e0)))),
    so _ _ _ _ _ (by decide) (so _ _ _ _ _ (by decide) (so _ _ _ _ _ (by decide) (ss _ _ _ _ (so _ _ _ _ _ (by decide) e1)))),
    so _ _ _ _ _ (by decide) (so _ _ _ _ _ (by decide) (ss _ _ _ _ (so _ _ _ _ _ (by decide) (so _ _ _ _ _ (by decide) e2)))),
    so _ _ _ _ _ (by decide) (ss _ _ _ _ (so _ _ _ _ _ (by decide) (so _ _ _ _ _ (by decide) (so _ _ _ _ _ (by decide) e3)))),
    ss _ _ _ _ (so _ _ _ _ _ (by decide) (so _ _ _ _ _ (by decide) (so _ _ _ _ _ (by decide) (so _ _ _ _ _ (by decide) e4)))),
    (((((Turn.refl (fun k => k = K) w).setCell (p := ⟨K, 0, none⟩) rfl _).setCell (p := ⟨K, 1, none⟩) rfl _).setCell (p := ⟨K, 2, none⟩) rfl _).setCell (p := ⟨K, 3, none⟩) rfl _).setCell (p := ⟨K, 4, none⟩) rfl _⟩
theorem u22 : Tryz.prog.underlying 22 = some (.slice 5) := by kernel_rfl
theorem u5 : Tryz.prog.underlying 5 = some (.int .u8) := by kernel_rfl

set_option maxHeartbeats 16000000 in
theorem law_all (v : Value) (l : List UInt8) (w : World) (hv : BytesOff w w.heap.size I v l) :
    Calls Tryz.prog 3 #[v] w fun e w' => e = .returned (.bool true) ∧ Turn (fun _ => False) w w' := by
  obtain ⟨PO, hPO⟩ : ∃ PO : Ending → World → Prop, PO = fun e w' => e = .returned (.bool true) ∧ Turn (fun _ => False) w w' := ⟨_, rfl⟩
  rw [← hPO]
  have HPO := Hid.mk' hPO
  clear hPO
  obtain ⟨av, cv, rfl⟩ := hv.len
  go_enter Tryz.func3, Tryz.ntmps3
  go_wp2_with (fail)
  refine (wakes_true w).mono ?_
  rintro e w1 ⟨rfl, hb1⟩
  have T1 : Turn (fun _ => False) w w1 := Turn.below (S := fun _ => False) hb1 (fun k h1 h2 => absurd h1 (by omega))
  clear hb1
  go_wp2_with (fail)
  refine (adisk_any (.pointer none) 1 w1 ⟨_, rfl⟩ (look_nil w1)).mono ?_
  rintro e w2 ⟨rfl, T2⟩
  go_wp2_with (fail)
  refine (acount_any (.pointer none) 1 w2 ⟨_, rfl⟩ (fun W _ => look_nil W)).mono ?_
  rintro e w3 ⟨⟨a0, a1, a2, a3, a4, rfl, hz⟩, T3⟩
  obtain ⟨rfl, rfl, rfl, rfl, rfl⟩ := hz (by decide)
  have HT3 := Hid.mk' ((T1.trans T2).trans T3)
  clear hz T1 T2 T3
  go_wp2_with (fail)
  obtain ⟨Z, hZ⟩ : ∃ Z, Z = w3.heap.size := ⟨_, rfl⟩
  obtain ⟨w4, hw4⟩ : ∃ w4, w4 = w3.alloc (Obj.cells #[.int .i64 0, .int .i64 0, .int .i64 0, .int .i64 0, .int .i64 0] 29) := ⟨_, rfl⟩
  have T4 : Turn (fun _ => False) w3 w4 := by rw [hw4]; exact (Turn.refl _ _).alloc _
  have zc : ∀ k v, #[Value.int .i64 0, .int .i64 0, .int .i64 0, .int .i64 0, .int .i64 0][k]? = some v → w4.cell? ⟨Z, k, none⟩ = some v := fun k v hk => by rw [hw4, hZ]; exact row_cell _ _ _ k _ hk
  have zf : ∀ k, w4.frozen? ⟨Z, k, none⟩ = false := fun k => by rw [hw4, hZ]; exact World.frozen?_alloc_at _ _ _ _ rfl
  have hZ4 : Z < w4.heap.size := World.block_lt_of_cell? w4 ⟨Z, 0, none⟩ (zc 0 _ rfl)
  have hZw : w.heap.size ≤ Z := by rw [hZ]; exact HT3.out.size
  rw [← hw4, ← hZ]
  clear hw4 hZ
  refine (wakes_true w4).mono ?_
  rintro e w5 ⟨rfl, hb5⟩
  have T5 := T4.trans (Turn.below (S := fun _ => False) hb5 (fun k h1 h2 => absurd h1 (by omega)))
  have T45 : Turn (fun _ => False) w4 w5 := Turn.below (S := fun _ => False) hb5 (fun k h1 h2 => absurd h1 (by omega))
  clear hb5
  go_wp2_with (fail)
  refine (new_any w5).mono ?_
  rintro e w6 ⟨d, m, rfl, D6, hm5, hd5, T6⟩
  have hsz5 := T45.size
  have HT6 : Hid (Turn (fun _ => False) w w6) := (HT3.out.trans T5).trans T6
  have zc6 : Hid (∀ k v, #[Value.int .i64 0, .int .i64 0, .int .i64 0, .int .i64 0, .int .i64 0][k]? = some v → w6.cell? ⟨Z, k, none⟩ = some v) := fun k v hk => (T45.trans T6).cell (zc k v hk) id
  have zf6 : Hid (∀ k, w6.frozen? ⟨Z, k, none⟩ = false) := fun k => ((T45.trans T6).frozen (p := ⟨Z, k, none⟩) hZ4 id).trans (zf k)
  have hdm : Z < d ∧ Z < m := by omega
  clear T4 T5 T45 T6 zc zf
  by_cases hbig : 1000 < l.length
  · have hbig' : (1000 : Int) < (l.length : Int) := by omega
    go_wp2_with (fail)
    rw [HPO.out]
    exact ⟨rfl, HT6.out⟩
  · have hbig' : ¬ (1000 : Int) < (l.length : Int) := by omega
    have hl3 : l.length ≤ 1000 := by omega
    have B6 : BytesOff w6 d (fun k => k < w.heap.size) (.slice av l.length cv) l := by
      have hv' : BytesOff w d (fun k => k < w.heap.size) (.slice av l.length cv) l := by
        rcases hv with ⟨b, o, c, h1, h2, h5, h3, h6, h4⟩ | hv
        · exact .inl ⟨b, o, c, h1, h2, h5, ⟨h3.2, h3.2⟩, by have := h3.2; omega, h4⟩
        · exact .inr hv
      exact HT6.out.bytes hv' (fun _ _ _ => id)
    have HB6 := Hid.mk' B6
    clear hv B6
    go_wp2_with (fail)
    refine (append_new d m (.slice av l.length cv) l w6 D6 HB6.out hl3).mono ?_
    rintro e w7 ⟨rfl, ⟨v7, cnt7, D7, B7, hc1, hc2, h1⟩, T7⟩
    have hsz6 := D6.lt
    have hdw : w.heap.size ≤ d ∧ w.heap.size ≤ m := by omega
    have HT7 : Hid (Turn (fun _ => False) w w7) := ((HT6.out.mono (S' := fun k => k = m ∨ k = d) (fun _ _ h => h.elim)).trans T7).mono (fun k hk h => by omega)
    have hnZ : ¬ (Z = m ∨ Z = d) := by omega
    have zc7 : Hid (∀ k v, #[Value.int .i64 0, .int .i64 0, .int .i64 0, .int .i64 0, .int .i64 0][k]? = some v → w7.cell? ⟨Z, k, none⟩ = some v) := fun k v hk => T7.cell (zc6.out k v hk) hnZ
    have hZ6 : Z < w6.heap.size := World.block_lt_of_cell? w6 ⟨Z, 0, none⟩ (zc6.out 0 _ rfl)
    have zf7 : Hid (∀ k, w7.frozen? ⟨Z, k, none⟩ = false) := fun k => (T7.frozen (p := ⟨Z, k, none⟩) hZ6 hnZ).trans (zf6.out k)
    have HB7 : Hid (BytesOff w7 d (fun k => k < w.heap.size) (.slice av l.length cv) l) := T7.bytes HB6.out (fun k hk _ e => by omega)
    have HB7' : Hid (BytesOff w7 d (fun k => w6.heap.size ≤ k) v7 l) := B7
    clear T7 zc6 zf6 HB6 HT6 D6 B7
    go_wp2_with (fail)
    refine (copy_any d m d cnt7 v7 l w7 D7 HB7'.out (by omega)).mono ?_
    rintro e w8 ⟨d2, m2, v8, rfl, D8, B8, hd2, hm2, hv8, T8⟩
    go_wp2_with (fail)
    refine (sopen_any d2 m2 0 v8 l w8 D8 (by omega) B8 (by omega)).mono ?_
    rintro e w9 ⟨T9, hq⟩
    obtain ⟨p9, rfl⟩ : ∃ p, e = .returned (.tuple #[.pointer p, .int .i64 (openF l)]) := by
      by_cases ho : openF l = 0
      · rw [if_pos ho] at hq
        obtain ⟨s, j, mp, B, vi, ids, v', cnt', l', rfl, _⟩ := hq
        exact ⟨_, by rw [ho]⟩
      · rw [if_neg ho] at hq
        exact ⟨_, hq⟩
    have hsz7 := D7.lt
    have hsm7 := D7.fs.lt
    have T79 : Turn (fun _ => False) w7 w9 := ((T8.mono (S' := fun k => k = m2 ∨ k = d2) (fun _ _ h => h.elim)).trans T9).mono (fun k hk h => by omega)
    have D9 : DiskAt w9 d m (some v7) cnt7 := D7.turn T79 id id
    have HT9 := Hid.mk' T79
    clear T8 D8 B8 T9 hq hd2 hm2 T79
    have look : ∀ W, Turn (fun _ => False) w7 W → Calls Tryz.prog 16 #[.pointer (some ⟨d, 0, none⟩)] W (LookRet W (openF l)) := fun W T => audit_look d m d cnt7 v7 l W (D7.turn T id id) (T.bytes HB7'.out (fun _ _ _ => id)) (by omega)
    have HLK := Hid.mk' look
    have HD7 := Hid.mk' D7
    clear look D7 D9
    generalize openF l = E at HLK
    go_wp2_with (fail)
    refine (adisk_any (.pointer (some ⟨d, 0, none⟩)) E w9 ⟨_, rfl⟩ (HLK.out w9 HT9.out)).mono ?_
    rintro e w10 ⟨rfl, T10⟩
    have HT10 := Hid.mk' (HT9.out.trans T10)
    clear T10
    go_wp2_with (fail)
    refine (acount_any (.pointer (some ⟨d, 0, none⟩)) E w10 ⟨_, rfl⟩ (fun W T => HLK.out W (HT10.out.trans T))).mono ?_
    rintro e w11 ⟨⟨a0, a1, a2, a3, a4, rfl, hz⟩, T11⟩
    have HT11 := Hid.mk' (HT10.out.trans T11)
    have HZ := Hid.mk' hz
    clear T11 hz
    have e0 := HT11.out.cell (zc7.out 0 _ rfl) id
    have e1 := HT11.out.cell (zc7.out 1 _ rfl) id
    have e2 := HT11.out.cell (zc7.out 2 _ rfl) id
    have e3 := HT11.out.cell (zc7.out 3 _ rfl) id
    have e4 := HT11.out.cell (zc7.out 4 _ rfl) id
    have hZ7 : Z < w7.heap.size := World.block_lt_of_cell? w7 ⟨Z, 0, none⟩ (zc7.out 0 _ rfl)
    have f0 := (HT11.out.frozen (p := ⟨Z, 0, none⟩) hZ7 id).trans (zf7.out 0)
    have f1 := (HT11.out.frozen (p := ⟨Z, 1, none⟩) hZ7 id).trans (zf7.out 1)
    have f2 := (HT11.out.frozen (p := ⟨Z, 2, none⟩) hZ7 id).trans (zf7.out 2)
    have f3 := (HT11.out.frozen (p := ⟨Z, 3, none⟩) hZ7 id).trans (zf7.out 3)
    have f4 := (HT11.out.frozen (p := ⟨Z, 4, none⟩) hZ7 id).trans (zf7.out 4)
    go_wp2_with (fail)
    obtain ⟨g0, g1, g2, g3, g4, TZ⟩ := five e0 e1 e2 e3 e4 a0 a1 a2 a3 a4
    generalize (((((w11.setCell ⟨Z, 0, none⟩ (.int .i64 a0)).setCell ⟨Z, 1, none⟩ (.int .i64 a1)).setCell ⟨Z, 2, none⟩ (.int .i64 a2)).setCell ⟨Z, 3, none⟩ (.int .i64 a3)).setCell ⟨Z, 4, none⟩ (.int .i64 a4)) = w12 at g0 g1 g2 g3 g4 TZ ⊢
    have T12 : Turn (fun k => k = Z) w7 w12 := (HT11.out.mono (fun _ _ h => h.elim)).trans TZ
    have D12 : DiskAt w12 d m (some v7) cnt7 := HD7.out.turn T12 (show ¬ d = Z by omega) (show ¬ m = Z by omega)
    have B12 : BytesOff w12 d (fun k => w6.heap.size ≤ k) v7 l := T12.bytes HB7'.out (fun k hk _ e => by omega)
    have C12 : BytesOff w12 d (fun k => k < w.heap.size) (.slice av l.length cv) l := T12.bytes HB7.out (fun k hk _ e => by omega)
    clear e0 e1 e2 e3 e4 f0 f1 f2 f3 f4
    refine (diskread_hit d m d d cnt7 v7 l w12 D12 B12 (by omega) D12.lt).mono ?_
    rintro e w13 ⟨v13, rfl, B13, bl13⟩
    have T13 : Turn (fun _ => False) w12 w13 := Turn.below (S := fun _ => False) bl13 (fun k h1 h2 => absurd h1 (by omega))
    have C13 := T13.bytes C12 (fun _ _ _ => id)
    have q1 := conv_text B13 22 5 9 u22 u5 u9
    have q2 := conv_text C13 22 5 9 u22 u5 u9
    have r0 := T13.cell g0 id
    have r1 := T13.cell g1 id
    have r2 := T13.cell g2 id
    have r3 := T13.cell g3 id
    have r4 := T13.cell g4 id
    have HTF : Hid (Turn (fun _ => False) w w13) := (((HT7.out.mono (S' := fun k => k = Z) (fun _ _ h => h.elim)).trans T12).trans (T13.mono (fun _ _ h => h.elim))).mono (fun k hk e => by omega)
    obtain ⟨a13, c13, rfl⟩ := B13.len
    clear D12 B12 C12 B13 C13 T13 T12 TZ bl13 g0 g1 g2 g3 g4
    by_cases hE : E = 0
    · subst hE
      go_wp2_with (fail)
      rw [HPO.out]
      exact ⟨rfl, HTF.out⟩
    · obtain ⟨rfl, rfl, rfl, rfl, rfl⟩ := HZ.out hE
      have hE2 : (E == 0) = false := by simpa using hE
      go_wp2_with (fail)
      rw [HPO.out]
      exact ⟨rfl, HTF.out⟩
end Go.Proofs

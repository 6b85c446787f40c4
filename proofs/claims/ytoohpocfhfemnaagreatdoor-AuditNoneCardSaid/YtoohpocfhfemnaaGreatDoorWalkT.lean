/- A part of the proof of AuditNone: the runs of the document's example and of the law's body, and facts of the row. Conditions: none. -/
import Derived.Test.YtoohpocfhfemnaaGreatDoorWalkS
import Derived.Test.YtoohpocfhfemnaaGreatDoorWalkM
import Derived.Test.YtoohpocfhfemnaaGreatDoorWalkO
namespace Go.Proofs
open Go.Shelf Go.RowKit Go.Lib
variable {I S : Nat → Prop}
attribute [local go_sem] Oper.semAt_some
set_option maxRecDepth 1000000

abbrev refsS : ByteArray := ⟨#[114, 101, 102, 115]⟩
/-- No refs. -/
structure RfAt (w : World) (r mp : Nat) : Prop where
  c0 : w.cell? ⟨r, 0, none⟩ = some (.map (some mp))
  mp : w.heap[mp]? = some (.map #[] 0)
theorem RfAt.turn {w w' : World} {r mp : Nat} (h : RfAt w r mp) (t : Turn S w w') (hr : ¬ S r) (hm : ¬ S mp) : RfAt w' r mp :=
  ⟨t.cell h.c0 hr, (t.block mp (Array.getElem?_eq_some_iff.1 h.mp).1 hm).trans h.mp⟩

theorem ropen_results {tmps : Array Value} {w : World} {K L : Nat} {p : Option Addr} {e : Int} (h2 : tmps.getD 2 undef = .pointer (some ⟨K, 0, none⟩)) (h3 : tmps.getD 3 undef = .pointer (some ⟨L, 0, none⟩)) (c2 : w.cell? ⟨K, 0, none⟩ = some (.pointer p)) (c3 : w.cell? ⟨L, 0, none⟩ = some (.int .i64 e)) :
    (results Tryz.f27 tmps).run Tryz.prog w = .ok (.tuple #[.pointer p, .int .i64 e]) w := by
  have h2' : tmps[2]?.getD undef = .pointer (some ⟨K, 0, none⟩) := by simpa using h2
  have h3' : tmps[3]?.getD undef = .pointer (some ⟨L, 0, none⟩) := by simpa using h3
  simp [results, Tryz.f27, go_sem, h2', h3', c2, c3, asAddr]

set_option maxHeartbeats 16000000 in
theorem ropen_any (d m : Nat) (cnt : Int) (x : Option Value) (w : World) (h : DiskAt w d m x cnt) :
    Calls Tryz.prog 27 #[.pointer (some ⟨d, 0, none⟩)] w fun e w' => ∃ r mp, e = .returned (.tuple #[.pointer (some ⟨r, 0, none⟩), .int .i64 0]) ∧ RfAt w' r mp ∧ w.heap.size ≤ r ∧ w.heap.size ≤ mp ∧ Turn (fun _ => False) w w' := by
  obtain ⟨PO, hPO⟩ : ∃ PO : Ending → World → Prop, PO = fun e w' => ∃ r mp, e = .returned (.tuple #[.pointer (some ⟨r, 0, none⟩), .int .i64 0]) ∧ RfAt w' r mp ∧ w.heap.size ≤ r ∧ w.heap.size ≤ mp ∧ Turn (fun _ => False) w w' := ⟨_, rfl⟩
  rw [← hPO]
  have HPO := Hid.mk' hPO
  clear hPO
  refine (callsIn_wide (n := 3)).1 ?_
  refine callsIn_of_wp_marks Tryz.func27 rfl trivial ?_ rfl
  simp only [Tryz.ntmps27, List.size_toArray, List.length_cons, List.length_nil, Nat.reduceAdd, Nat.reduceSub, Array.replicate_succ, Array.replicate_zero, List.push_toArray, List.append_toArray, List.nil_append, List.cons_append]
  gi_wp2_with (fail)
  obtain ⟨K, hK⟩ : ∃ K, K = w.heap.size := ⟨_, rfl⟩
  have hT0 : Turn (fun _ => False) w ((w.alloc (Obj.cells #[Value.pointer none] 44)).alloc (Obj.cells #[Value.int IntKind.i64 0] 25)) := ((Turn.refl _ _).alloc _).alloc _
  have r2 : ((w.alloc (Obj.cells #[Value.pointer none] 44)).alloc (Obj.cells #[Value.int IntKind.i64 0] 25)).cell? ⟨K, 0, none⟩ = some (.pointer none) := by rw [hK]; exact Lib.cell?_alloc_some _ (row_cell _ _ _ 0 _ rfl)
  have r3 : ((w.alloc (Obj.cells #[Value.pointer none] 44)).alloc (Obj.cells #[Value.int IntKind.i64 0] 25)).cell? ⟨K + 1, 0, none⟩ = some (.int .i64 0) := by
    have := row_cell (w.alloc (Obj.cells #[Value.pointer none] 44)) #[Value.int IntKind.i64 0] 25 0 _ rfl
    rw [World.size_alloc] at this
    rw [hK]
    exact this
  have f2 : ((w.alloc (Obj.cells #[Value.pointer none] 44)).alloc (Obj.cells #[Value.int IntKind.i64 0] 25)).frozen? ⟨K, 0, none⟩ = false := by
    rw [hK]
    exact (((Turn.refl (fun _ => False) (w.alloc (Obj.cells #[Value.pointer none] 44))).alloc _).frozen (p := ⟨w.heap.size, 0, none⟩) (by rw [World.size_alloc]; exact Nat.lt_succ_self _) id).trans (World.frozen?_alloc_at _ _ _ _ rfl)
  have f3 : ((w.alloc (Obj.cells #[Value.pointer none] 44)).alloc (Obj.cells #[Value.int IntKind.i64 0] 25)).frozen? ⟨K + 1, 0, none⟩ = false := by
    have := World.frozen?_alloc_at (w := w.alloc (Obj.cells #[Value.pointer none] 44)) #[Value.int IntKind.i64 0] 25 _ 0 rfl
    rw [World.size_alloc] at this
    rw [hK]
    exact this
  have hs0 : ((w.alloc (Obj.cells #[Value.pointer none] 44)).alloc (Obj.cells #[Value.int IntKind.i64 0] 25)).heap.size = K + 2 := by rw [hK]; simp
  rw [← hK]
  generalize (w.alloc (Obj.cells #[Value.pointer none] 44)).alloc (Obj.cells #[Value.int IntKind.i64 0] 25) = w0 at hT0 r2 r3 f2 f3 hs0 ⊢
  have D0 := h.turn hT0 id id
  have HK := Hid.mk' hK
  clear h hK
  refine ⟨trivial, callsIn_wide.2 ((jopen_miss d m cnt x refsS w0 D0 (.inl (by decide))).mono ?_)⟩
  rintro e w1 ⟨j, Bj, rfl, hwj, J1, hT1⟩
  have q2 := hT1.cell r2 id
  have q3 := hT1.cell r3 id
  have g2 := (hT1.frozen (p := ⟨K, 0, none⟩) (by show K < w0.heap.size; omega) id).trans f2
  have g3 := (hT1.frozen (p := ⟨K + 1, 0, none⟩) (by show K + 1 < w0.heap.size; omega) id).trans f3
  have hmm := @run_makeMap Tryz.prog
  gi_wp2_with (fail)
  obtain ⟨M, hM⟩ : ∃ M, M = w1.heap.size := ⟨_, rfl⟩
  refine ⟨trivial, callsIn_wide.2 ((each_any j _).mono ?_)⟩
  rintro e w5 ⟨rfl, hw5⟩
  have hA : ∃ A0 A1 A2, A0 = w1.alloc (.map #[] 0) ∧ A1 = A0.alloc (Obj.cells #[Value.map (some M), Value.pointer (some ⟨j, 0, none⟩)] 91) ∧ A2 = A1.alloc (Obj.cells #[Value.pointer (some ⟨M + 1, 0, none⟩)] 44) ∧ w5 = A2.alloc (Obj.cells #[Value.pointer (some ⟨j, 0, none⟩)] 63) := ⟨_, _, _, rfl, rfl, rfl, by rw [hw5, hM]⟩
  clear hmm
  obtain ⟨A0, A1, A2, hA0, hA1, hA2, hA5⟩ := hA
  have z0 : A0.heap.size = M + 1 := by rw [hA0, hM]; exact World.size_alloc _ _
  have z1 : A1.heap.size = M + 2 := by rw [hA1, World.size_alloc, z0]
  have z2 : A2.heap.size = M + 3 := by rw [hA2, World.size_alloc, z1]
  have z5 : w5.heap.size = M + 4 := by rw [hA5, World.size_alloc, z2]
  have om0 : A0.heap[M]? = some (.map #[] 0) := by rw [hA0, hM]; exact World.alloc_last _ _
  have s0 : A1.cell? ⟨M + 1, 0, none⟩ = some (.map (some M)) := by rw [hA1, ← z0]; exact row_cell _ _ _ 0 _ rfl
  have b6 : A2.cell? ⟨M + 2, 0, none⟩ = some (.pointer (some ⟨M + 1, 0, none⟩)) := by rw [hA2, ← z1]; exact row_cell _ _ _ 0 _ rfl
  have b7 : w5.cell? ⟨M + 3, 0, none⟩ = some (.pointer (some ⟨j, 0, none⟩)) := by rw [hA5, ← z2]; exact row_cell _ _ _ 0 _ rfl
  have tA0 : Turn (fun _ => False) w1 A0 := by rw [hA0]; exact (Turn.refl _ _).alloc _
  have tA1 : Turn (fun _ => False) A0 A1 := by rw [hA1]; exact (Turn.refl _ _).alloc _
  have tA2 : Turn (fun _ => False) A1 A2 := by rw [hA2]; exact (Turn.refl _ _).alloc _
  have tA5 : Turn (fun _ => False) A2 w5 := by rw [hA5]; exact (Turn.refl _ _).alloc _
  have tA : Turn (fun _ => False) w1 w5 := tA0.trans (tA1.trans (tA2.trans tA5))
  have R5 : RfAt w5 (M + 1) M := RfAt.turn (w := A1) ⟨s0, (tA1.block M (by omega) id).trans om0⟩ (tA2.trans tA5) id id
  have J5 := J1.turn tA id (fun _ _ => id) (fun _ _ => id)
  have q2' := tA.cell q2 id
  have q3' := tA.cell q3 id
  have g2' := (tA.frozen (p := ⟨K, 0, none⟩) (World.block_lt_of_cell? _ _ q2) id).trans g2
  have g3' := (tA.frozen (p := ⟨K + 1, 0, none⟩) (World.block_lt_of_cell? _ _ q3) id).trans g3
  have hKM : K + 1 < M := by rw [hM]; exact World.block_lt_of_cell? _ _ q3
  have c6 : w5.cell? ⟨M + 1 + 1, 0, none⟩ = some (.pointer (some ⟨M + 1, 0, none⟩)) := tA5.cell b6 id
  have c7 : w5.cell? ⟨M + 1 + 1 + 1, 0, none⟩ = some (.pointer (some ⟨j, 0, none⟩)) := b7
  have hTw : Turn (fun _ => False) w w5 := (hT0.trans hT1).trans tA
  rw [← hM]
  simp only [World.size_alloc]
  rw [← hM]
  clear hw5 hA0 hA1 hA2 hA5 om0 s0 b6 tA0 tA1 tA2 tA5 J1 q2 q3 g2 g3 z0 z1 z2 tA hT1 hT0 r2 r3 f2 f3 hs0 b7 hM D0
  gi_wp2_with (fail)
  obtain ⟨II, hII⟩ : ∃ II : Nat → World → Prop, II = fun _ W => Turn (fun _ => False) w5 W := ⟨_, rfl⟩
  have HII := Hid.mk' hII
  have HZ5 := Hid.mk' z5
  clear hII z5
  refine range_law (j := j) (d := d) (B := Bj) (va := .slice none 0 0) (vp := .slice none 0 0) (f := refsS) (rs := []) (sz := 0) (Bx := M + 1 + 1 + 1) rfl rfl (by simp) (by simp)
    II (fun _ => False)
    ?hIat ?hIst ?hXst ?h0 (fun k v => { tmps := #[.pointer (some ⟨d, 0, none⟩), undef, .pointer (some ⟨K, 0, none⟩), .pointer (some ⟨K + 1, 0, none⟩), .pointer (some ⟨j, 0, none⟩), .int .i64 0, .pointer (some ⟨M + 1 + 1, 0, none⟩), undef, v, .tuple #[.pointer (some ⟨j, 0, none⟩), .int .i64 0], .pointer (some ⟨d, 0, none⟩), .tuple #[.pointer (some ⟨j, 0, none⟩), .int .i64 0], .pointer (some ⟨j, 0, none⟩), .int .i64 0, .int .i64 0, .bool false, undef, .map (some M), .pointer (some ⟨j, 0, none⟩), .agg #[.map (some M), .pointer (some ⟨j, 0, none⟩)], .pointer (some ⟨M + 1, 0, none⟩), .pointer (some ⟨j, 0, none⟩), .func (.func 53) #[] #[.pointer (some ⟨M + 1 + 1 + 1, 0, none⟩)], .int .i64 (k : Int), v, undef, undef, undef, undef, undef], defers := [] }) ?hassign ?hbody ?hdone ?hstop
  case hIat =>
    rintro k W hI
    rw [HII.out] at hI
    exact ⟨J5.turn hI id (fun _ _ => id) (fun _ _ => id), hI.cell c7 id⟩
  case hIst =>
    rintro k A A' hI T2
    rw [HII.out] at hI ⊢
    rw [HZ5.out] at T2
    have z5 := HZ5.out
    exact ((hI.mono (S' := fun x => x = M + 4 + 1) (fun _ _ h => h.elim)).trans T2).mono (fun x hx h => by omega)
  case hXst => exact fun _ _ h _ => h
  case h0 =>
    intro r
    rw [HII.out]
    exact ((Turn.refl _ _).alloc _).alloc _
  case hassign =>
    intro k v W K hK
    gi_wp2
    exact hK
  case hbody =>
    rintro k v x W _ hx
    simp at hx
  case hstop => exact fun _ h => h.elim
  case hdone =>
    rintro W hI hdf
    rw [HII.out] at hI
    have e6 := hI.cell c6 id
    have p2 := hI.cell q2' id
    have p3 := hI.cell q3' id
    have u2 := (hI.frozen (p := ⟨K, 0, none⟩) (World.block_lt_of_cell? _ _ q2') id).trans g2'
    have u3 := (hI.frozen (p := ⟨K + 1, 0, none⟩) (World.block_lt_of_cell? _ _ q3') id).trans g3'
    have hsz := HZ5.out
    have done : ∀ (p : Option Addr) (e : Int), Hid (((((W.setCell ⟨K, 0, none⟩ (.pointer p)).setCell ⟨K + 1, 0, none⟩ (.int .i64 e)).putObj w5.heap.size (.deferred none)).cell? ⟨K, 0, none⟩ = some (.pointer p) ∧ (((W.setCell ⟨K, 0, none⟩ (.pointer p)).setCell ⟨K + 1, 0, none⟩ (.int .i64 e)).putObj w5.heap.size (.deferred none)).cell? ⟨K + 1, 0, none⟩ = some (.int .i64 e)) ∧
        ((W.setCell ⟨K, 0, none⟩ (.pointer p)).setCell ⟨K + 1, 0, none⟩ (.int .i64 e)).heap[w5.heap.size]? = some (.deferred (some [])) ∧
        Turn (fun _ => False) w (((W.setCell ⟨K, 0, none⟩ (.pointer p)).setCell ⟨K + 1, 0, none⟩ (.int .i64 e)).putObj w5.heap.size (.deferred none)) ∧
        RfAt (((W.setCell ⟨K, 0, none⟩ (.pointer p)).setCell ⟨K + 1, 0, none⟩ (.int .i64 e)).putObj w5.heap.size (.deferred none)) (M + 1) M) := fun p e => by
      have HW := HK.out
      have T8 : Turn (fun x => x = K ∨ x = K + 1) W ((W.setCell ⟨K, 0, none⟩ (.pointer p)).setCell ⟨K + 1, 0, none⟩ (.int .i64 e)) := ((Turn.refl (fun x => x = K ∨ x = K + 1) W).setCell (p := ⟨K, 0, none⟩) (.inl rfl) _).setCell (p := ⟨K + 1, 0, none⟩) (.inr rfl) _
      have y2 : ((W.setCell ⟨K, 0, none⟩ (.pointer p)).setCell ⟨K + 1, 0, none⟩ (.int .i64 e)).cell? ⟨K, 0, none⟩ = some (.pointer p) := (World.cell?_setCell_other _ _ _ _ (by simp)).trans (World.cell?_setCell_same _ _ _ p2)
      have y3 : ((W.setCell ⟨K, 0, none⟩ (.pointer p)).setCell ⟨K + 1, 0, none⟩ (.int .i64 e)).cell? ⟨K + 1, 0, none⟩ = some (.int .i64 e) := World.cell?_setCell_same _ _ _ ((World.cell?_setCell_other _ _ _ _ (by simp)).trans p3)
      have hD8 := (T8.block w5.heap.size (Array.getElem?_eq_some_iff.1 hdf).1 (by omega)).trans hdf
      have T9 := putObj_turn ((W.setCell ⟨K, 0, none⟩ (.pointer p)).setCell ⟨K + 1, 0, none⟩ (.int .i64 e)) w5.heap.size (.deferred none)
      have TT : Turn (fun x => x = K ∨ x = K + 1 ∨ x = w5.heap.size) W (((W.setCell ⟨K, 0, none⟩ (.pointer p)).setCell ⟨K + 1, 0, none⟩ (.int .i64 e)).putObj w5.heap.size (.deferred none)) := (T8.mono (fun x _ h => by omega)).trans (T9.mono (fun x _ h => .inr (.inr h)))
      refine ⟨⟨T9.cell y2 (by show ¬ K = w5.heap.size; omega), T9.cell y3 (by show ¬ K + 1 = w5.heap.size; omega)⟩, hD8, ?_, (R5.turn hI id id).turn TT (by omega) (by omega)⟩
      exact (((hTw.trans hI).mono (S' := fun x => K ≤ x) (fun x _ h => h.elim)).trans (TT.mono (fun x _ h => by omega))).mono (fun x hx h => by omega)
    have HF := Hid.mk' done
    clear hdf done hsz hI
    gi_wp2_with (fail)
    obtain ⟨⟨x2, x3⟩, x4, x5, x6⟩ := (HF.out (some ⟨M + 1, 0, none⟩) 0).out
    refine ⟨by simp, .inl ⟨_, _, rfl, run_takeDeferred x4, ⟨_, ropen_results rfl rfl x2 x3, ?_⟩⟩⟩
    rw [HPO.out]
    have HW := HK.out
    exact ⟨_, _, rfl, x6, by omega, by omega, x5⟩
end Go.Proofs

namespace Go.Proofs
open Go.Shelf Go.RowKit Go.Lib
variable {I S : Nat → Prop}
attribute [local go_sem] Oper.semAt_some
set_option maxRecDepth 1000000

set_option maxHeartbeats 1000000 in
/-- A loop over a sequence that yields nothing. -/
theorem range_none {g : Operand} {ps : Array Tmp} {assign body : Code} {Q : Exit → Act → World → Prop} {a : Act} {w : World} {n fid : Nat} {p : Value}
    (hg : a.eval g = .func (.func fid) #[] #[p]) (he : ∀ args w, (callFunc fid args).run Tryz.prog w = .ok (.enter fid args) w)
    (hgen : ∀ l W, Turn (fun _ => False) w W → Calls Tryz.prog fid #[.func (.yield l) #[] #[], p] W fun e W' => (∃ v, e = .returned v) ∧ Turn (fun _ => False) W W')
    (hdone : ∀ W, Turn (fun _ => False) w W → W.heap[w.heap.size]? = some (.deferred (some [])) → Q .normal { a with defers := { target := .collected w.heap.size, args := #[] } :: a.defers } W) :
    (Code.rangeFunc g ps assign body).wpIn Fence.wide n Tryz.prog Q a w := by
  refine wpIn_rangeFunc ?_
  intro fn hfn
  obtain ⟨rec, hrec⟩ : ∃ rec : LoopState → Option Code → Loop, rec = fun st pe => { state := st, pending := pe, fn, tmps := a.tmps, params := ps, assign, body, defers := w.heap.size } := ⟨_, rfl⟩
  obtain ⟨W1, hW1⟩ : ∃ W1, (w.alloc (.deferred (some []))).alloc (.loop (rec .ready none)) = W1 := ⟨_, rfl⟩
  have hL1 : W1.heap[w.heap.size + 1]? = some (.loop (rec .ready none)) := by
    rw [← hW1]
    have := World.alloc_last (w.alloc (.deferred (some []))) (.loop (rec .ready none))
    rwa [World.size_alloc] at this
  have hD1 : W1.heap[w.heap.size]? = some (.deferred (some [])) := by
    rw [← hW1]
    exact (Below.heap_alloc _ _ _ (by simp)).trans (World.alloc_last w _)
  have hT1 : Turn (fun _ => False) w W1 := by rw [← hW1]; exact ((Turn.refl _ _).alloc _).alloc _
  refine ⟨w.heap.size + 1, [{ target := .collected w.heap.size, args := #[] }], W1, { target := .fn (.func fid) #[p], args := #[.func (.yield (w.heap.size + 1)) #[] #[]] }, W1, fid,
    #[.func (.yield (w.heap.size + 1)) #[] #[], p], W1, ?_, ?_, ?_, ?_, fun h => absurd h (by decide), ?_⟩
  · rw [← hW1, hrec]
    exact run_enterLoop_outer _ _ _ _ _
  · simp only [resolve, hg]
    simp [go_sem]
  · intro f' _
    trivial
  · simp [invoke, go_sem, he]
  · refine callsIn_wide.2 ((hgen (w.heap.size + 1) W1 hT1).mono ?_)
    rintro e W2 ⟨⟨v, rfl⟩, hT2⟩
    have hl : W2.heap[w.heap.size + 1]? = some (.loop (rec .ready none)) := (hT2.block _ (Array.getElem?_eq_some_iff.1 hL1).1 id).trans hL1
    have hd : W2.heap[w.heap.size]? = some (.deferred (some [])) := (hT2.block _ (Array.getElem?_eq_some_iff.1 hD1).1 id).trans hD1
    exact ⟨none, _, by have := run_endLoop (P := Tryz.prog) hl (by rw [hrec]; simp); rw [hrec] at this; exact this,
      hdone _ (((hT1.trans hT2).mono (S' := fun x => x = w.heap.size + 1) (fun _ _ h => h.elim)).trans (putObj_turn _ _ _) |>.mono (fun x hx e => by omega)) ((World.putObj_heap_other (by omega)).trans hd)⟩

set_option maxHeartbeats 4000000 in
theorem slen_any (s j mp B : Nat) (vi : Value) (ids : List Int) (w : World) (h : StAt w s j mp B vi ids) :
    Calls Tryz.prog 36 #[.pointer (some ⟨s, 0, none⟩)] w fun e w' => (∃ n, e = .returned (.int .i64 n)) ∧ w' = w := by
  obtain ⟨a, c, rfl⟩ := slice_of_owns h.oi
  have c2 := h.c2
  clear h
  go_enter Tryz.func36, Tryz.ntmps36
  go_wp2_with (fail)
  go_ret
  exact ⟨⟨_, rfl⟩, rfl⟩
theorem u89 : Tryz.prog.underlying 89 = some (.map 9 48) := by kernel_rfl
set_option maxHeartbeats 4000000 in
theorem rlen_any (r mp : Nat) (w : World) (h : RfAt w r mp) : Calls Tryz.prog 37 #[.pointer (some ⟨r, 0, none⟩)] w fun e w' => (∃ n, e = .returned (.int .i64 n)) ∧ w' = w := by
  have hlen : (Builtin.len_ #[89] 3 #[.map (some mp)]).run Tryz.prog w = .ok (.int .i64 (0 : Nat)) w := run_lenmap u89 h.mp
  have c0 := h.c0
  clear h
  go_enter Tryz.func37, Tryz.ntmps37
  go_wp2_with (fail)
  go_ret
  exact ⟨⟨_, rfl⟩, rfl⟩
end Go.Proofs

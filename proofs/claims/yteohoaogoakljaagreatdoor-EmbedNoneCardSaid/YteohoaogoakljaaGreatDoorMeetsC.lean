/- A part of the proof of EmbedNoneCardSaid: the runs of the document's example and of the law's body, and facts of the row. Conditions: none. -/
import Derived.Test.YteohoaogoakljaaGreatDoorMeetsB
namespace Go.Eng
open Go

structure MW (tb : Tab) : Prop extends MV tb where
  z154 : tb.zero 168 = some (.agg [.nilSlice, .nilSlice])
  i31 : tb.intr 37 = none
  f31 : tb.fn 37 = some Go.Proofs.Tryz.f37
  i12 : tb.intr 9 = none
  f12 : tb.fn 9 = some Go.Proofs.Tryz.f9
  i111 : tb.intr 131 = none
  f111 : tb.fn 131 = some Go.Proofs.Tryz.f131
  i47 : tb.intr 58 = none
  f47 : tb.fn 58 = some Go.Proofs.Tryz.f58

theorem ListAt.one {h : EH} {v : EV} {vs : List EV} (a : ListAt h v vs) : v.one = true := by cases a <;> rfl

/-- A new block. -/
theorem keep_new {h : EH} {o : EO} {k : Nat} (hl : Low h) (hb : h.next < 100000000000) (hk : h.next + 1 ≤ k) : Keep h ⟨Go.Eng.T.set deep h.objs h.next o, k⟩ (k - h.next) where
  old m o' e := (oget_other hb (by have := hl m o' e; omega)).trans e
  lo := by simp only; omega
  hi := by simp only; omega
  back m o' e := by
    rcases Go.Eng.T.get_set _ _ _ _ _ _ e with ⟨h1, _⟩ | ⟨_, h2⟩
    · exact .inr ⟨by omega, by simp only; omega⟩
    · exact .inl ⟨_, h2⟩

theorem Low.up {h : EH} {k : Nat} (hl : Low h) (hk : h.next ≤ k) : Low ⟨h.objs, k⟩ := fun m o e => Nat.lt_of_lt_of_le (hl m o e) hk

theorem pr0 {tb : Tab} (T : MW tb) {ids rows x : EV} (h1 : ids.one = true) (h2 : rows.one = true) (fu : Nat) {h : EH} (hl : Low h) (hb : h.next < 10000000000) :
    ∃ f1 hh, exec tb (fu + 10) false (Code.at [false] (bodyOf Go.Proofs.Tryz.f58)) (initFr 73 [.agg [ids, rows], x]) h = .normal f1 hh ∧ f1.n = 73 ∧ f1.get 1 = some x ∧ f1.get 2 = some (.ptr h.next 0) ∧ f1.get 4 = some (.ptr (h.next + 1) 0) ∧
      Keep h hh 4 ∧ hh.next = h.next + 4 ∧ hh.get h.next = some (.cells (rowOf [ids, rows]) 168 true) ∧ hh.get (h.next + 1) = some (.cells (rowOf [.nilSlice, .nilSlice]) 168 true) := by
  have k1 := keep_new (o := .cells (rowOf [ids, rows]) 168 true) hl (by omega) (Nat.le_refl (h.next + 1))
  have k2 := keep_new (o := .cells (rowOf [.nilSlice, .nilSlice]) 168 true) (k1.low hl) (by simp only; omega) (Nat.le_refl (h.next + 1 + 1))
  refine ⟨?f1, ?hh, ?run, ?n, ?g1, ?g2, ?g4, ?keep, ?nx, ?c1, ?c2⟩
  case run =>
    apply x_region
    apply r_val
    · exact (by omega : 2 < 73)
    · rw [op_box, show ev (initFr 73 [.agg [ids, rows], x]) (.tmp 0) = some (.agg [ids, rows]) from rfl]
      simp only [EV.cells, List.all_cons, List.all_nil, h1, h2, Bool.and_self, T.s154, List.length_cons, List.length_nil, Nat.zero_add, Nat.reduceAdd, decide_true, cond] <;> rfl
    apply r_val
    · exact (by omega : 4 < 73)
    · rw [op_alloc, T.z154]
      simp only [EV.cells, List.all_cons, List.all_nil, EV.one, Bool.and_self, T.s154, List.length_cons, List.length_nil, Nat.zero_add, Nat.reduceAdd, decide_true, cond] <;> rfl
    apply r_val
    · exact (by omega : 5 < 73)
    · simp only [op_assign, ev_const, conv_int, Option.map_some] <;> rfl
    apply r_val
    · exact (by omega : 6 < 73)
    · simp only [op_assign, ev_const, conv_bool, Option.map_some] <;> rfl
    exact r_nil
  case n => rfl
  case g1 => simp only [Fr.get_wth_other, Nat.reduceLT, Nat.reduceEqDiff, ne_eq, not_false_eq_true]; rfl
  case g2 => simp only [Fr.get_wth_same, Fr.get_wth_other, Nat.reduceLT, Nat.reduceEqDiff, ne_eq, not_false_eq_true]
  case g4 => simp only [Fr.get_wth_same, Fr.get_wth_other, Nat.reduceLT, Nat.reduceEqDiff, ne_eq, not_false_eq_true]; rfl
  case keep => exact (k1.trans (k2.trans (Keep.up (k := h.next + 4) (B := 2) (by simp only; omega) (by simp only; omega)) (Nat.le_refl _)) (by simp only; omega))
  case nx => rfl
  case c1 => exact (oget_other (by simp only [EH.set]; omega) (by simp only [EH.set]; omega)).trans (oget_same (by omega))
  case c2 => exact oget_same (by simp only [EH.set]; omega)

theorem pr1 {tb : Tab} (T : MW tb) {x : EV} {l : List Nat} (N : Nat) {f : Fr} {h : EH} (hn : f.n = 73) (h1 : f.get 1 = some x) (hb : BytesAt h x l) (hl : l.length < 1000000000) (hz : idOf l ≠ 0) :
    ∃ f1 hh, exec tb (N + l.length + 61) false (Code.at [true, false] (bodyOf Go.Proofs.Tryz.f58)) f h = .normal f1 hh ∧ f1.n = 73 ∧ f1.get 7 = some (.int .u64 (idOf l)) ∧ (∀ t, t ≠ 7 → t < 12 → f1.get t = f.get t) ∧ Keep h hh (16 * l.length + 50) := by
  obtain ⟨h2, c1, k1⟩ := id_call T.toMT T.i31 T.f31 T.i12 T.f12 N (h := ⟨h.objs, h.next + 1 + 1⟩) hb.next hl hz
  refine ⟨?f1, ?hh, ?run, ?n, ?g7, ?gt, ?keep⟩
  case run =>
    apply x_region
    apply r_val
    · simp only [hn, Nat.reduceLT]
    · simp only [op_move, ev_tmp, h1, Option.map_some] <;> rfl
    apply r_call
    · simp only [Fr.wth_n, hn, Nat.reduceLT]
    · simp only [op_call, evs_cons, evs_nil, ev_tmp, Fr.get_wth_same, Nat.reduceLT] <;> rfl
    · exact c1
    apply r_val
    · simp only [Fr.wth_n, hn, Nat.reduceLT]
    · simp only [op_assign, ev_tmp, Fr.get_wth_same, Nat.reduceLT, Option.map_some] <;> rfl
    exact r_nil
  case n => simp only [Fr.wth_n, hn]
  case g7 => exact Fr.get_wth_same (by omega)
  case gt =>
    intro t a b
    iterate 3 (rw [Fr.get_wth_other (by omega) (by omega)])
  case keep => exact (Keep.up (k := h.next + 1 + 1) (B := 2) (by omega) (by omega)).trans (k1.trans (Keep.up (B := 1) (by omega) (by omega)) (Nat.le_refl _)) (by omega)

theorem load_agg2 {tb : Tab} (T : MW tb) {h : EH} {p : Nat} {a b : EV} (h0 : h.cell p 0 = some a) (h1 : h.cell p 1 = some b) : loadE tb h 168 p 0 = some (.agg [a, b]) := by
  unfold loadE
  rw [T.u154]
  simp only [isAggD, cond, T.s154]
  unfold EH.read
  unfold EH.cell at h0 h1
  cases hg : h.get p with
  | none => rw [hg] at h0; cases h0
  | some o =>
    rw [hg] at h0 h1
    cases o <;> first | (cases h0; done) | skip
    simp only at h0 h1 ⊢
    simp only [readFrom, h0, h1]
    rfl

theorem pr2 {tb : Tab} (T : MW tb) {ids rows : EV} {l : List Nat} {x p : Nat} (N : Nat) {f : Fr} {h : EH} (hn : f.n = 73) (h2 : f.get 2 = some (.ptr p 0)) (h7 : f.get 7 = some (.int .u64 x)) (c0 : h.cell p 0 = some ids) (c1 : h.cell p 1 = some rows)
    (hlow : Low h) (hcap : h.next < 10000000000) (hl : ListAt h ids (l.map fun y => .int .u64 ((y : Nat) : Int))) (ho : rows.one = true) (hne : ∀ y ∈ l, y ≠ x) (hlen : l.length < 1000000000) :
    ∃ f1 hh, exec tb (N + l.length + 61) false (Code.at [true, true, false] (bodyOf Go.Proofs.Tryz.f58)) f h = .normal f1 hh ∧ f1.n = 73 ∧ f1.get 8 = some (.int .i64 (-1)) ∧ (∀ t, t ≠ 8 → t < 14 → f1.get t = f.get t) ∧ Keep h hh (15 * l.length + 30) := by
  have ku : Keep h ⟨h.objs, h.next + 1 + 1 + 1⟩ 3 := Keep.up (by omega) (by omega)
  obtain ⟨h3, q1, k1⟩ := find_call T.toMU T.i111 T.f111 N (h := ⟨h.objs, h.next + 1 + 1 + 1⟩) (rows := rows) (x := x) (hlow.up (by omega)) (by simp only; omega) (hl.keep ku) ⟨hl.one, ho⟩ hne hlen
  refine ⟨?f1, ?hh, ?run, ?n, ?g8, ?gt, ?keep⟩
  case run =>
    apply x_region
    apply r_val
    · simp only [hn, Nat.reduceLT]
    · rw [op_load]
      simp only [ev_tmp, h2]
      rw [show loadE tb ⟨h.objs, h.next + 1⟩ 168 p 0 = some (.agg [ids, rows]) from load_agg2 T c0 c1]
      rfl
    apply r_val
    · simp only [Fr.wth_n, hn, Nat.reduceLT]
    · simp only [op_move, ev_tmp, h7, Fr.get_wth_other, Nat.reduceLT, Nat.reduceEqDiff, ne_eq, not_false_eq_true, Option.map_some] <;> rfl
    apply r_call
    · simp only [Fr.wth_n, hn, Nat.reduceLT]
    · simp only [op_call, evs_cons, evs_nil, ev_tmp, Fr.get_wth_same, Fr.get_wth_other, Nat.reduceLT, Nat.reduceEqDiff, ne_eq, not_false_eq_true] <;> rfl
    · exact q1
    apply r_val
    · simp only [Fr.wth_n, hn, Nat.reduceLT]
    · simp only [op_assign, ev_tmp, Fr.get_wth_same, Nat.reduceLT, Option.map_some] <;> rfl
    exact r_nil
  case n => simp only [Fr.wth_n, hn]
  case g8 => exact Fr.get_wth_same (by omega)
  case gt =>
    intro t a b
    iterate 4 (rw [Fr.get_wth_other (by omega) (by omega)])
  case keep => exact ku.trans (k1.trans (Keep.up (B := 1) (by omega) (by omega)) (Nat.le_refl _)) (by omega)

theorem pr3 {tb : Tab} (fu : Nat) {f : Fr} {h : EH} (hn : f.n = 73) (h8 : f.get 8 = some (.int .i64 (-1))) :
    ∃ f1, exec tb (fu + 10) false (Code.at [true, true, true, false] (bodyOf Go.Proofs.Tryz.f58)) f h = .normal f1 ⟨h.objs, h.next + 2⟩ ∧ f1.n = 73 ∧ (∀ t, t < 17 → f1.get t = f.get t) := by
  refine ⟨?f1, ?run, ?n, ?gt⟩
  case run =>
    apply x_seq
    · apply x_region
      apply r_val
      · simp only [hn, Nat.reduceLT]
      · simp only [op_move, ev_tmp, h8, Option.map_some] <;> rfl
      apply r_val
      · simp only [Fr.wth_n, hn, Nat.reduceLT]
      · simp only [op_binOp, ev_tmp, ev_const, conv_int, Fr.get_wth_same, Nat.reduceLT, bin_geq, guard_int, cond, Option.map_some, show decide ((0 : Int) ≤ -1) = false from rfl] <;> rfl
      exact r_nil
    · apply x_cond_f
      · simp only [ev_tmp, Fr.get_wth_same, Nat.reduceLT]
      · exact exec_skip
  case n => simp only [Fr.wth_n, hn]
  case gt =>
    intro t a
    iterate 2 (rw [Fr.get_wth_other (by omega) (by omega)])
end Go.Eng

namespace Go.Eng
open Go

theorem pr5 {tb : Tab} (T : MW tb) {p : Nat} {us : EV} {vs : List EV} (fu : Nat) {f : Fr} {h : EH} (hn : f.n = 73) (h2 : f.get 2 = some (.ptr p 0)) (c0 : h.cell p 0 = some us) (hl : ListAt h us vs) (hlow : Low h) (hcap : h.next < 1000000000) (hbig : vs.length < 100000000) :
    ∃ f1 hh a c, exec tb (fu + 10) false (Code.at [true, true, true, true, false] (bodyOf Go.Proofs.Tryz.f58)) f h = .normal f1 hh ∧ f1.n = 73 ∧ f1.get 9 = some (.slice a 0 0 (some (vs.length + 1)) 1) ∧ (∀ t, t ≠ 9 → t < 30 → f1.get t = f.get t) ∧ Keep h hh 6 ∧
      a = h.next + 4 ∧ hh.next = h.next + 6 ∧ hh.get a = some (.cells c 23 false) ∧ ∀ j, j < vs.length + 1 → (c.get j).isSome = true := by
  have hpc : ∀ k, EH.cell ⟨h.objs, k⟩ p 0 = some us := fun k => c0
  have hlen : ∀ k, lenE tb ⟨h.objs, k⟩ 46 (us) = some (.int .i64 ((vs.length : Nat) : Int)) := fun k => hl.len T.u45
  have hadd := add_i64 vs.length (by omega)
  obtain ⟨ti, q1, q2, q3⟩ := T.i23
  refine ⟨?f1, ?hh, h.next + 4, rowOf (repl [.int .u64 0] (vs.length + 1)), ?run, ?n, ?g9, ?gt, ?keep, rfl, ?nx, ?ga, ?gh⟩
  case run =>
    apply x_region
    apply r_val
    · simp only [hn, Nat.reduceLT]
    · apply fa0 T.toMU
      simp only [ev_tmp, h2] <;> rfl
    apply r_val
    · simp only [Fr.wth_n, hn, Nat.reduceLT]
    · simp only [op_load, ev_tmp, Fr.get_wth_same, Nat.reduceLT, load_one T.u45 (by rfl), hpc, Option.map_some] <;> rfl
    apply r_val
    · simp only [Fr.wth_n, hn, Nat.reduceLT]
    · simp only [op_len, ev_tmp, Fr.get_wth_same, Nat.reduceLT, hlen, Option.map_some] <;> rfl
    apply r_val
    · simp only [Fr.wth_n, hn, Nat.reduceLT]
    · simp only [op_binOp, ev_tmp, ev_const, conv_int, Fr.get_wth_same, Nat.reduceLT, bin_add, guard_int, cond, hadd, Option.map_some] <;> rfl
    apply r_val
    · simp only [Fr.wth_n, hn, Nat.reduceLT]
    · exact ms_one T.u45 q1 T.s23 q3 T.z23 rfl (by simp only [ev_tmp, Fr.get_wth_same, Nat.reduceLT]) hbig
    apply r_val
    · simp only [Fr.wth_n, hn, Nat.reduceLT]
    · simp only [op_assign, ev_tmp, Fr.get_wth_same, Nat.reduceLT, Option.map_some] <;> rfl
    exact r_nil
  case n => simp only [Fr.wth_n, hn]
  case g9 => exact Fr.get_wth_same (by omega)
  case gt =>
    intro t a b
    iterate 6 (rw [Fr.get_wth_other (by omega) (by omega)])
  case keep =>
    have ku : Keep h ⟨h.objs, h.next + 4⟩ 4 := Keep.up (by omega) (by omega)
    exact ku.trans (keep_new (k := h.next + 6) (ku.low hlow) (by simp only; omega) (by simp only; omega)) (by simp only; omega)
  case nx => rfl
  case ga => exact oget_same (n := h.next + 4) (by omega)
  case gh => exact fun j hj => rowOf_has (by rw [repl_one_length]; omega) (by rw [repl_one_length]; exact hj)

theorem pr6 {tb : Tab} (T : MW tb) {p : Nat} {us : EV} {vs : List EV} (fu : Nat) {f : Fr} {h : EH} (hn : f.n = 73) (h2 : f.get 2 = some (.ptr p 0)) (c0 : h.cell p 1 = some us) (hl : ListAt h us vs) (hlow : Low h) (hcap : h.next < 1000000000) (hbig : vs.length < 100000000) :
    ∃ f1 hh a c, exec tb (fu + 10) false (Code.at [true, true, true, true, true, false] (bodyOf Go.Proofs.Tryz.f58)) f h = .normal f1 hh ∧ f1.n = 73 ∧ f1.get 10 = some (.slice a 0 0 (some (vs.length + 1)) 1) ∧ (∀ t, t ≠ 10 → t < 30 → f1.get t = f.get t) ∧ Keep h hh 6 ∧
      a = h.next + 4 ∧ hh.next = h.next + 6 ∧ hh.get a = some (.cells c 63 false) ∧ ∀ j, j < vs.length + 1 → (c.get j).isSome = true := by
  have hpc : ∀ k, EH.cell ⟨h.objs, k⟩ p 1 = some us := fun k => c0
  have hlen : ∀ k, lenE tb ⟨h.objs, k⟩ 48 (us) = some (.int .i64 ((vs.length : Nat) : Int)) := fun k => hl.len T.u44
  have hadd := add_i64 vs.length (by omega)
  obtain ⟨ti, q1, q2, q3⟩ := T.i58
  refine ⟨?f1, ?hh, h.next + 4, rowOf (repl [.nilSlice] (vs.length + 1)), ?run, ?n, ?g9, ?gt, ?keep, rfl, ?nx, ?ga, ?gh⟩
  case run =>
    apply x_region
    apply r_val
    · simp only [hn, Nat.reduceLT]
    · apply fa1 T.toMU
      simp only [ev_tmp, h2] <;> rfl
    apply r_val
    · simp only [Fr.wth_n, hn, Nat.reduceLT]
    · simp only [op_load, ev_tmp, Fr.get_wth_same, Nat.reduceLT, load_one T.u44 (by rfl), hpc, Option.map_some] <;> rfl
    apply r_val
    · simp only [Fr.wth_n, hn, Nat.reduceLT]
    · simp only [op_len, ev_tmp, Fr.get_wth_same, Nat.reduceLT, hlen, Option.map_some] <;> rfl
    apply r_val
    · simp only [Fr.wth_n, hn, Nat.reduceLT]
    · simp only [op_binOp, ev_tmp, ev_const, conv_int, Fr.get_wth_same, Nat.reduceLT, bin_add, guard_int, cond, hadd, Option.map_some] <;> rfl
    apply r_val
    · simp only [Fr.wth_n, hn, Nat.reduceLT]
    · exact ms_one T.u44 q1 T.s58 q3 T.z58 rfl (by simp only [ev_tmp, Fr.get_wth_same, Nat.reduceLT]) hbig
    apply r_val
    · simp only [Fr.wth_n, hn, Nat.reduceLT]
    · simp only [op_assign, ev_tmp, Fr.get_wth_same, Nat.reduceLT, Option.map_some] <;> rfl
    exact r_nil
  case n => simp only [Fr.wth_n, hn]
  case g9 => exact Fr.get_wth_same (by omega)
  case gt =>
    intro t a b
    iterate 6 (rw [Fr.get_wth_other (by omega) (by omega)])
  case keep =>
    have ku : Keep h ⟨h.objs, h.next + 4⟩ 4 := Keep.up (by omega) (by omega)
    exact ku.trans (keep_new (k := h.next + 6) (ku.low hlow) (by simp only; omega) (by simp only; omega)) (by simp only; omega)
  case nx => rfl
  case ga => exact oget_same (n := h.next + 4) (by omega)
  case gh => exact fun j hj => rowOf_has (by rw [repl_one_length]; omega) (by rw [repl_one_length]; exact hj)

theorem pr7 {tb : Tab} (fu : Nat) {f : Fr} {h : EH} (hn : f.n = 73) :
    ∃ f1, exec tb (fu + 10) false (Code.at [true, true, true, true, true, true, false, false] (bodyOf Go.Proofs.Tryz.f58)) f h = .normal f1 ⟨h.objs, h.next + 1⟩ ∧ f1.n = 73 ∧ f1.get 11 = some (.int .i64 ((0 : Nat) : Int)) ∧ (∀ t, t ≠ 11 → f1.get t = f.get t) := by
  refine ⟨?f1, ?run, ?n, ?g, ?gt⟩
  case run =>
    apply x_region
    apply r_val
    · simp only [hn, Nat.reduceLT]
    · simp only [op_assign, ev_const, conv_int, Option.map_some] <;> rfl
    exact r_nil
  case n => simp only [Fr.wth_n, hn]
  case g => exact Fr.get_wth_same (by omega)
  case gt =>
    intro t a
    rw [Fr.get_wth_other (by omega) a]

theorem build154 {tb : Tab} (T : MW tb) {h : EH} {nm : Nat} {f : Fr} {dst : Option Tmp} {ty : TypeId} {pos : String} {af : Array Edge} {x y : Operand} {a b : EV} (hx : ev f x = some a) (hy : ev f y = some b) (ha : a.one = true) (hb : b.one = true) :
    opE tb h nm f ⟨dst, .build 168 #[(0, x), (1, y)], ty, pos, af, none⟩ = some (.val (.agg [a, b]) h) := by
  obtain ⟨fd0, p1, p2, p3⟩ := FS0
  obtain ⟨fd1, q1, q2, q3⟩ := FS1
  have hfs : FS.toList = [fd0, fd1] := by
    have hlen : FS.toList.length = 2 := rfl
    have e0 : FS.toList[0]? = some fd0 := by rw [← p1]; simp
    have e1 : FS.toList[1]? = some fd1 := by rw [← q1]; simp
    match hL : FS.toList, hlen, e0, e1 with
    | [u, v], _, e0, e1 => simp at e0 e1; rw [e0, e1]
  rw [op_build]
  have hp : partsE f [(0, x), (1, y)] = some [(0, a), (1, b)] := by simp only [partsE, hx, hy]
  rw [hp]
  simp only
  have hfp : fieldPlaces tb [fd0, fd1] = some [(0, 1), (1, 1)] := by
    simp only [fieldPlaces, p3, q3, T.s45, T.s44, p2, q2]
  have hbld : buildE tb 168 [(0, a), (1, b)] = some (.agg [a, b]) := by
    unfold buildE
    rw [T.z154]
    simp only [T.u154]
    rw [hfs, hfp]
    show (fillE (fun i => [((0 : Nat), (1 : Nat)), (1, 1)][i]?) [.nilSlice, .nilSlice] [(0, a), (1, b)]).map EV.agg = _
    simp only [fillE, List.getElem?_cons_zero, List.getElem?_cons_succ, cells_one ha, cells_one hb, putCells, List.length_cons, List.length_nil, List.length_singleton]
    rfl
  rw [hbld]
  rfl
end Go.Eng

namespace Go.Eng
open Go

theorem op_store_agg {tb : Tab} {h : EH} {nm : Nat} {f : Fr} {dst : Option Tmp} {ty : TypeId} {pos : String} {af : Array Edge} {t : TypeId} {x y : Operand} {q : Nat} {l : List EV} {c : Go.Eng.T EV} {e : TypeId} {vr : Bool}
    (hx : ev f x = some (.ptr q 0)) (hy : ev f y = some (.agg l)) (hs : tb.size t = some l.length) (hg : h.get q = some (.cells c e vr)) (ho : l.all EV.one = true) (hr : (readFrom c 0 l.length).isSome = true) :
    opE tb h nm f ⟨dst, .store t x y, ty, pos, af, none⟩ = some (.skip (h.set q (.cells (writeFrom c 0 l) e vr))) := by
  rw [op_store, hx, hy]
  simp only
  unfold storeE
  rw [hs]
  simp only [EV.cells]
  rw [show Nat.beq l.length l.length = true from by simp]
  simp only [cond]
  unfold EH.write
  rw [hg]
  simp only [ho, hr, Bool.and_self, cond, Option.map_some]

theorem pr12 {tb : Tab} (T : MW tb) {a b q n x : Nat} {v : EV} {ca cb cq : Go.Eng.T EV} (fu : Nat) {f : Fr} {h : EH} (hn : f.n = 73)
    (h9 : f.get 9 = some (.slice a 0 n (some (n + 1)) 1)) (h10 : f.get 10 = some (.slice b 0 n (some (n + 1)) 1)) (h7 : f.get 7 = some (.int .u64 x)) (h1 : f.get 1 = some v) (h4 : f.get 4 = some (.ptr q 0)) (hv : v.one = true)
    (ga : h.get a = some (.cells ca 23 false)) (gb : h.get b = some (.cells cb 63 false)) (gq : h.get q = some (.cells cq 168 true)) (ha : ∀ j, j < n + 1 → (ca.get j).isSome = true) (hb : ∀ j, j < n + 1 → (cb.get j).isSome = true) (hq : (readFrom cq 0 2).isSome = true)
    (hab : a ≠ b ∧ a ≠ q ∧ b ≠ q ∧ a < h.next ∧ b < h.next ∧ q < h.next) (hbig : n < 100000000) (hnx : h.next < 10000000000) :
    ∃ f1 hh, exec tb (fu + 10) false (Code.at [true, true, true, true, true, true, true, false] (bodyOf Go.Proofs.Tryz.f58)) f h = .normal f1 hh ∧ f1.n = 73 ∧ f1.get 5 = some (.int .u64 x) ∧ f1.get 6 = some (.bool true) ∧ f1.get 4 = some (.ptr q 0) ∧
      hh.next = h.next + 13 ∧ hh.get q = some (.cells (writeFrom cq 0 [.slice a 0 (n + 1) (some (n + 1)) 1, .slice b 0 (n + 1) (some (n + 1)) 1]) 168 true) ∧ hh.get a = some (.cells (Go.Eng.T.set deep ca n (.int .u64 x)) 23 false) ∧ hh.get b = some (.cells (Go.Eng.T.set deep cb n v) 63 false) ∧
      (∀ m, m ≠ a → m ≠ b → m ≠ q → m < h.next → hh.get m = h.get m) ∧ ∀ m o, hh.get m = some o → (∃ o', h.get m = some o') ∨ (h.next ≤ m ∧ m < hh.next) := by
  obtain ⟨ti, q1, q2, q3⟩ := T.i23
  obtain ⟨si, s1, s2, s3⟩ := T.i58
  obtain ⟨u1, u2, u3, u4, u5, u6⟩ := hab
  refine ⟨?f1, ⟨Go.Eng.T.set deep (Go.Eng.T.set deep (Go.Eng.T.set deep (Go.Eng.T.set deep (Go.Eng.T.set deep h.objs (h.next + 2) (.cells (rowOf [.int .u64 x]) 23 false)) a (.cells (Go.Eng.T.set deep ca n (.int .u64 x)) 23 false)) (h.next + 6) (.cells (rowOf [v]) 63 false)) b (.cells (Go.Eng.T.set deep cb n v) 63 false)) q (.cells (writeFrom cq 0 [.slice a 0 (n + 1) (some (n + 1)) 1, .slice b 0 (n + 1) (some (n + 1)) 1]) 168 true), h.next + 13⟩, ?run, ?n, ?g5, ?g6, ?g4, rfl, ?gq, ?ga, ?gb, ?gm, ?bk⟩
  case run =>
    apply x_region
    iterate 2 (apply r_val; (· simp only [Fr.wth_n, hn, Nat.reduceLT]); (· simp only [op_move, ev_tmp, h9, h7, Fr.get_wth_other, Nat.reduceLT, Nat.reduceEqDiff, ne_eq, not_false_eq_true, Option.map_some] <;> rfl))
    apply r_val
    · simp only [Fr.wth_n, hn, Nat.reduceLT]
    · exact bs_one (v := .int .u64 ((x : Nat) : Int)) T.u45 T.s23 T.z23 rfl (by simp only [ev_tmp, Fr.get_wth_same, Nat.reduceLT]) rfl
    apply r_val
    · simp only [Fr.wth_n, hn, Nat.reduceLT]
    · rw [op_append]
      simp only [ev_tmp, Fr.get_wth_same, Fr.get_wth_other, Nat.reduceLT, Nat.reduceEqDiff, ne_eq, not_false_eq_true]
      exact app_one T.u45 q1 q2 q3 T.z23 rfl ((oget_other (by omega) (by omega)).trans ga) (fun j hj => ha j (by omega)) (by omega) (by omega) (cell_of (oget_same (by omega)) rfl)
    iterate 2 (apply r_val; (· simp only [Fr.wth_n, hn, Nat.reduceLT]); (· simp only [op_move, ev_tmp, h10, h1, Fr.get_wth_other, Nat.reduceLT, Nat.reduceEqDiff, ne_eq, not_false_eq_true, Option.map_some] <;> rfl))
    apply r_val
    · simp only [Fr.wth_n, hn, Nat.reduceLT]
    · exact bs_one T.u44 T.s58 T.z58 rfl (by simp only [ev_tmp, Fr.get_wth_same, Nat.reduceLT]) hv
    apply r_val
    · simp only [Fr.wth_n, hn, Nat.reduceLT]
    · rw [op_append]
      simp only [ev_tmp, Fr.get_wth_same, Fr.get_wth_other, Nat.reduceLT, Nat.reduceEqDiff, ne_eq, not_false_eq_true]
      exact app_one T.u44 s1 s2 s3 T.z58 rfl ((oget_other (n := h.next + 6) (by omega) (by omega)).trans ((oget_other (by omega) (Ne.symm u1)).trans ((oget_other (n := h.next + 2) (by omega) (by omega)).trans gb))) (fun j hj => hb j (by omega)) (by omega) (by omega) (cell_of (oget_same (n := h.next + 6) (by omega)) rfl)
    apply r_val
    · simp only [Fr.wth_n, hn, Nat.reduceLT]
    · exact build154 T (by simp only [ev_tmp, Fr.get_wth_same, Fr.get_wth_other, Nat.reduceLT, Nat.reduceEqDiff, ne_eq, not_false_eq_true]; rfl) (by simp only [ev_tmp, Fr.get_wth_same, Nat.reduceLT]; rfl) rfl rfl
    apply r_val
    · simp only [Fr.wth_n, hn, Nat.reduceLT]
    · simp only [op_move, ev_tmp, h7, Fr.get_wth_other, Nat.reduceLT, Nat.reduceEqDiff, ne_eq, not_false_eq_true, Option.map_some] <;> rfl
    apply r_skip
    · exact op_store_agg (l := [.slice a 0 (n + 1) (some (n + 1)) 1, .slice b 0 (n + 1) (some (n + 1)) 1]) (by simp only [ev_tmp, h4, Fr.get_wth_other, Nat.reduceLT, Nat.reduceEqDiff, ne_eq, not_false_eq_true]) (by simp only [ev_tmp, Fr.get_wth_same, Fr.get_wth_other, Nat.reduceLT, Nat.reduceEqDiff, ne_eq, not_false_eq_true]) T.s154
        ((oget_other (by omega) (Ne.symm u3)).trans ((oget_other (n := h.next + 6) (by omega) (by omega)).trans ((oget_other (by omega) (Ne.symm u2)).trans ((oget_other (n := h.next + 2) (by omega) (by omega)).trans gq)))) rfl hq
    apply r_val
    · simp only [Fr.wth_n, hn, Nat.reduceLT]
    · simp only [op_assign, ev_tmp, Fr.get_wth_same, Nat.reduceLT, Option.map_some] <;> rfl
    apply r_val
    · simp only [Fr.wth_n, hn, Nat.reduceLT]
    · simp only [op_assign, ev_const, conv_bool, Option.map_some] <;> rfl
    exact r_nil
  case n => simp only [Fr.wth_n, hn]
  case g5 => simp only [Fr.get_wth_same, Fr.get_wth_other, Nat.reduceLT, Nat.reduceEqDiff, ne_eq, not_false_eq_true]
  case g6 => exact Fr.get_wth_same (by omega)
  case g4 => simp only [h4, Fr.get_wth_other, Nat.reduceLT, Nat.reduceEqDiff, ne_eq, not_false_eq_true]
  case gq => exact oget_same (by omega)
  case ga => exact (oget_other (by omega) u2).trans ((oget_other (by omega) u1).trans ((oget_other (n := h.next + 6) (by omega) (by omega)).trans (oget_same (by omega))))
  case gb => exact (oget_other (by omega) u3).trans (oget_same (by omega))
  case gm => exact fun m a1 a2 a3 a4 => (oget_other (by omega) a3).trans ((oget_other (by omega) a2).trans ((oget_other (n := h.next + 6) (by omega) (by omega)).trans ((oget_other (by omega) a1).trans (oget_other (n := h.next + 2) (by omega) (by omega)))))
  case bk =>
    intro m o e
    rcases Go.Eng.T.get_set _ _ _ _ _ _ e with ⟨z, _⟩ | ⟨_, e⟩
    · exact .inl (z ▸ ⟨_, gq⟩)
    rcases Go.Eng.T.get_set _ _ _ _ _ _ e with ⟨z, _⟩ | ⟨_, e⟩
    · exact .inl (z ▸ ⟨_, gb⟩)
    rcases Go.Eng.T.get_set _ _ _ _ _ _ e with ⟨z, _⟩ | ⟨_, e⟩
    · exact .inr ⟨by omega, by simp only; omega⟩
    rcases Go.Eng.T.get_set _ _ _ _ _ _ e with ⟨z, _⟩ | ⟨_, e⟩
    · exact .inl (z ▸ ⟨_, ga⟩)
    rcases Go.Eng.T.get_set _ _ _ _ _ _ e with ⟨z, _⟩ | ⟨_, e⟩
    · exact .inr ⟨by omega, by simp only; omega⟩
    exact .inl ⟨o, e⟩

/-- A slice of a block that is new. -/
def NewS (k : Nat) (v : EV) : Prop := ∃ a n c, v = .slice a 0 n c 1 ∧ k ≤ a

/-- Put, where the id is new. -/
theorem put_call {tb : Tab} (T : MW tb) (N : Nat) {h : EH} {ids rows x : EV} {ws : List EV} {l bs : List Nat} (hlow : Low h) (hcap : h.next + 50 * bs.length + 100 * l.length + 1000 < 1000000000)
    (li : ListAt h ids (l.map fun y => .int .u64 ((y : Nat) : Int))) (lr : ListAt h rows ws) (hlen : ws.length = l.length) (hw : ∀ v ∈ ws, v.one = true) (hx : BytesAt h x bs) (hz : idOf bs ≠ 0) (hne : ∀ y ∈ l, y ≠ idOf bs) :
    ∃ h' ids' rows', callWith tb (exec tb (N + bs.length + l.length + 100)) 58 [.agg [ids, rows], x] h = some (.tuple [.agg [ids', rows'], .int .u64 (idOf bs), .bool true], h') ∧ Keep h h' (50 * bs.length + 100 * l.length + 500) ∧
      ListAt h' ids' ((l ++ [idOf bs]).map fun y => .int .u64 ((y : Nat) : Int)) ∧ ListAt h' rows' (ws ++ [x]) ∧ NewS h.next ids' ∧ NewS h.next rows' := by
  have hx1 : x.one = true := by obtain ⟨_, _, _, rfl, _⟩ := hx.at'; rfl
  have hvl : (l.map fun y => EV.int .u64 ((y : Nat) : Int)).length = l.length := by simp
  obtain ⟨f0, h0, r0, n0, a1, a2, a4, k0, nx0, cp, cq⟩ := pr0 T (x := x) li.one lr.one (N + bs.length + l.length + 89) hlow (by omega)
  have low0 := k0.low hlow
  obtain ⟨f1, h1, r1, n1, b7, bt, k1⟩ := pr1 T (N + l.length + 37) n0 a1 (hx.keep k0) (by omega) hz
  have low1 := k1.low low0
  have cp0 : h1.cell h.next 0 = some ids := cell_of (k1.old _ _ cp) rfl
  have cp1 : h1.cell h.next 1 = some rows := cell_of (k1.old _ _ cp) rfl
  have k01 := k0.trans k1 (Nat.le_refl _)
  have kh1 := k1.hi
  obtain ⟨f2, h2, r2, n2, c8, ct, k2⟩ := pr2 T (N + bs.length + 36) n1 ((bt 2 (by omega) (by omega)).trans a2) b7 cp0 cp1 low1 (by omega) (li.keep k01) lr.one hne (by omega)
  have low2 := k2.low low1
  have kh2 := k2.hi
  obtain ⟨f3, r3, n3, dt⟩ := pr3 (tb := tb) (N + bs.length + l.length + 86) (h := h2) n2 c8
  have k3 : Keep h2 ⟨h2.objs, h2.next + 2⟩ 2 := Keep.up (by omega) (by omega)
  have low3 := k3.low low2
  have k02 := (k01.trans k2 (Nat.le_refl _)).trans k3 (Nat.le_refl _)
  have k13 := k2.trans k3 (Nat.le_refl _)
  have t2 : f3.get 2 = some (.ptr h.next 0) := (dt 2 (by omega)).trans ((ct 2 (by omega) (by omega)).trans ((bt 2 (by omega) (by omega)).trans a2))
  obtain ⟨f5, h5, a, ca, r5, n5, e9, et, k5, ea, nx5, ga, gha⟩ := pr5 T (vs := l.map fun y => .int .u64 ((y : Nat) : Int)) (N + bs.length + l.length + 85) (h := ⟨h2.objs, h2.next + 2⟩) n3 t2 (k13.cell cp0) (li.keep k02) low3 (by simp only; omega) (by rw [hvl]; omega)
  have low5 := k5.low low3
  simp only at ea nx5
  obtain ⟨f6, h6, b, cb, r6, n6, g10, gt, k6, eb, nx6, gb, ghb⟩ := pr6 T (vs := ws) (N + bs.length + l.length + 84) (h := h5) n5 ((et 2 (by omega) (by omega)).trans t2) ((k13.trans k5 (Nat.le_refl _)).cell cp1) ((lr.keep k02).keep k5) low5 (by omega) (by omega)
  have low6 := k6.low low5
  obtain ⟨f7, r7, n7, h11, ht⟩ := pr7 (tb := tb) (N + bs.length + l.length + 82) (h := h6) n6
  have k7 : Keep h6 ⟨h6.objs, h6.next + 1⟩ 1 := Keep.up (by omega) (by omega)
  have k27 : Keep h2 ⟨h6.objs, h6.next + 1⟩ 15 := (k3.trans (k5.trans (k6.trans k7 (Nat.le_refl _)) (Nat.le_refl _)) (by omega))
  have k17 := k2.trans k27 (Nat.le_refl _)
  have k07 := k01.trans k17 (Nat.le_refl _)
  have lo0 := k0.lo
  have lo1 := k1.lo
  have lo2 := k2.lo
  have below : ∀ (v : EV) (us : List EV), ListAt h v us → ∀ xx off n cap, v = .slice xx off n cap 1 → 0 < us.length → xx < h.next := by
    intro v us hl xx off n cap e hpos
    obtain ⟨b', o', c', e', hc⟩ := hl.inv hpos
    rw [e] at e'
    cases e'
    obtain ⟨o, hg⟩ := get_of_cell (hc 0 hpos)
    exact hlow _ _ hg
  have A : PAll ⟨h6.objs, h6.next + 1⟩ h.next (h.next + 1) a b ids rows (l.map fun y => .int .u64 ((y : Nat) : Int)) ws := {
    low := k7.low low6
    cp0 := k17.cell cp0
    cp1 := k17.cell cp1
    li := li.keep k07
    lr := lr.keep k07
    len := by rw [hvl]; exact hlen
    pa := by simp only at nx6 eb ⊢; exact ⟨by omega, by omega, by omega, by omega, by omega⟩
    one := ⟨fun v hv => by rw [List.mem_map] at hv; obtain ⟨y, _, rfl⟩ := hv; rfl, hw⟩
    big := by rw [hvl]; omega
    ia := fun xx off n cap e hpos => by have := below _ _ li xx off n cap e hpos; exact ⟨by omega, by omega⟩
    ir := fun xx off n cap e hpos => by
      have := below _ _ lr xx off n cap e (by rw [hlen]; rw [hvl] at hpos; exact hpos)
      exact ⟨by omega, by omega⟩ }
  have I : PInv ⟨h6.objs, h6.next + 1⟩ h.next (h.next + 1) a b ids rows (l.map fun y => .int .u64 ((y : Nat) : Int)) ws 0 f7 ⟨h6.objs, h6.next + 1⟩ := {
    old := fun m o e _ _ => e
    back := fun m o e => .inl ⟨o, e⟩
    ra := ⟨ca, k6.old _ _ ga, gha, fun j hj => by omega⟩
    rb := ⟨cb, gb, fun j hj => ghb j (by rw [hlen, ← hvl]; exact hj), fun j hj => by omega⟩
    nx := Nat.le_refl _
    n := n7
    t2 := (ht 2 (by omega)).trans ((gt 2 (by omega) (by omega)).trans ((et 2 (by omega) (by omega)).trans t2))
    t9 := (ht 9 (by omega)).trans ((gt 9 (by omega) (by omega)).trans e9)
    t10 := (ht 10 (by omega)).trans (g10.trans (by rw [hlen, hvl]))
    t11 := h11
    keep := fun _ _ => trivial }
  obtain ⟨f8, h8, r8, I8, nx8, kt⟩ := put_loop T.toMV A (N + bs.length + 61) l.length 0 f7 ⟨h6.objs, h6.next + 1⟩ (by rw [hvl]; omega) I (by simp only; omega)
  obtain ⟨ca', ga', gha', gva⟩ := I8.ra
  obtain ⟨cb', gb', ghb', gvb⟩ := I8.rb
  have nx0' : h6.next + 1 ≤ h8.next := I8.nx
  have nx8' : h8.next ≤ h6.next + 1 + 26 * l.length + 5 := nx8
  have nx6' : h6.next = h2.next + 14 := by omega
  have t9 := I8.t9
  have t10 := I8.t10
  rw [hvl] at t9 t10 gha' ghb' gva gvb
  have low8 : Low h8 := fun m o e => by
    rcases I8.back m o e with ⟨o', e'⟩ | ⟨_, h2⟩
    · have : m < h6.next + 1 := A.low m o' e'; omega
    · exact h2
  have gq8 : h8.get (h.next + 1) = some (.cells (rowOf [.nilSlice, .nilSlice]) 168 true) := I8.old _ _ (k17.old _ _ (k1.old _ _ cq)) (by omega) (by omega)
  have kk : ∀ t, t = 1 ∨ t = 4 → f8.get t = f0.get t := fun t htt => (kt t (by omega)).trans ((ht t (by omega)).trans ((gt t (by omega) (by omega)).trans ((et t (by omega) (by omega)).trans ((dt t (by omega)).trans ((ct t (by omega) (by omega)).trans (bt t (by omega) (by omega)))))))
  have t7 : f8.get 7 = some (.int .u64 (idOf bs)) := (kt 7 (by omega)).trans ((ht 7 (by omega)).trans ((gt 7 (by omega) (by omega)).trans ((et 7 (by omega) (by omega)).trans ((dt 7 (by omega)).trans ((ct 7 (by omega) (by omega)).trans b7)))))
  obtain ⟨f9, h9, r9, n9, i5, i6, i4, nx9, gq9, ga9, gb9, gm9, bk9⟩ := pr12 T (N + bs.length + l.length + 82) (h := h8) I8.n t9 t10 t7 ((kk 1 (.inl rfl)).trans a1) ((kk 4 (.inr rfl)).trans a4) hx1 ga' gb' gq8 gha' ghb' rfl
    ⟨by omega, by omega, by omega, low8 _ _ ga', low8 _ _ gb', low8 _ _ gq8⟩ (by omega) (by omega)
  have set_all : ∀ (c : Go.Eng.T EV) (us : List EV) (v : EV), us.length = l.length → (∀ j, j < l.length → c.get j = us[j]?) → ∀ j (hj : j < (us ++ [v]).length), (Go.Eng.T.set deep c l.length v).get (0 + j) = some (us ++ [v])[j] := by
    intro c us v hu hc j hj
    rw [Nat.zero_add]
    by_cases hji : j = l.length
    · subst hji
      rw [Go.Eng.T.get_set_same _ _ _ _ (by simp only [deep]; omega)]
      simp [hu]
    · have hj' : j < us.length := by simp at hj; omega
      rw [Go.Eng.T.get_set_other _ _ _ _ _ (by simp only [deep]; omega) hji, hc j (by omega), List.getElem_append_left hj', List.getElem?_eq_getElem hj']
  have kbig : Keep h h9 (50 * bs.length + 100 * l.length + 500) := {
    old := fun m o e => by
      have hm := hlow m o e
      have e7 := k07.old m o e
      exact (gm9 m (by omega) (by omega) (by omega) (by omega)).trans (I8.old m o e7 (by omega) (by omega))
    lo := by omega
    hi := by omega
    back := fun m o e => by
      rcases bk9 m o e with ⟨o8, e8⟩ | ⟨z1, z2⟩
      · rcases I8.back m o8 e8 with ⟨o7, e7⟩ | ⟨z1, z2⟩
        · rcases k07.back m o7 e7 with z | ⟨z1, z2⟩
          · exact .inl z
          · exact .inr ⟨z1, by simp only at z2; omega⟩
        · exact .inr ⟨by simp only at z1; omega, by omega⟩
      · exact .inr ⟨by omega, z2⟩ }
  refine ⟨h9, .slice a 0 (l.length + 1) (some (l.length + 1)) 1, .slice b 0 (l.length + 1) (some (l.length + 1)) 1, ?run, kbig, ?li, ?lr, ⟨a, _, _, rfl, by omega⟩, ⟨b, _, _, rfl, by omega⟩⟩
  case li =>
    have e := ListAt.slice (h := h9) a 0 (some (l.length + 1)) ((l ++ [idOf bs]).map fun y => EV.int .u64 ((y : Nat) : Int)) (fun j hj => by
      have hs := set_all ca' (l.map fun y => EV.int .u64 ((y : Nat) : Int)) (.int .u64 ((idOf bs : Nat) : Int)) hvl gva j (by simpa using hj)
      refine cell_of ga9 (hs.trans ?_)
      simp [List.map_append])
    simpa using e
  case lr =>
    have e := ListAt.slice (h := h9) b 0 (some (l.length + 1)) (ws ++ [x]) (fun j hj => cell_of gb9 (set_all cb' ws x hlen gvb j hj))
    simpa [hlen] using e
  case run =>
    refine call_ret (vs := [.agg [.slice a 0 (l.length + 1) (some (l.length + 1)) 1, .slice b 0 (l.length + 1) (some (l.length + 1)) 1], .int .u64 ((idOf bs : Nat) : Int), .bool true]) T.i47 T.f47 rfl rfl (f := f9) ?run ?res
    case run =>
      apply x_seq
      · exact r0
      apply x_seq
      · rw [show N + l.length + 37 + bs.length + 61 = N + bs.length + l.length + 98 from by omega] at r1
        exact r1
      apply x_seq
      · rw [show N + bs.length + 36 + l.length + 61 = N + bs.length + l.length + 97 from by omega] at r2
        exact r2
      apply x_seq
      · exact r3
      apply x_seq
      · exact r5
      apply x_seq
      · exact r6
      apply x_seq
      · apply x_seq
        · exact r7
        · apply x_block_exit
          rw [show N + bs.length + 61 + l.length + 30 = N + bs.length + l.length + 91 from by omega] at r8
          exact r8
      apply x_seq
      · exact r9
      · exact exec_ret
    case res =>
      show resE tb f9 h9 [.cell 4 168, .tmp 5, .tmp 6] = _
      have hld : loadE tb h9 168 (h.next + 1) 0 = some (.agg [.slice a 0 (l.length + 1) (some (l.length + 1)) 1, .slice b 0 (l.length + 1) (some (l.length + 1)) 1]) := load_agg2 T (cell_of gq9 rfl) (cell_of gq9 rfl)
      simp only [resE, i4, i5, i6, hld]
end Go.Eng

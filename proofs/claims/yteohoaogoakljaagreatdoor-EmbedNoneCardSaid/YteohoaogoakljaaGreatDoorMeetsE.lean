/- A part of the proof of EmbedNoneCardSaid: the runs of the document's example and of the law's body, and facts of the row. Conditions: none. -/
import Derived.Test.YteohoaogoakljaaGreatDoorMeetsC
import Derived.KernelRfl
namespace Go.Eng
open Go

variable {tb : Tab} {ex : Ex} {ops : Array Oper} {bef : List Nat} {base i : Nat} {f : Fr} {h h' : EH} {effs : List Nat} {gs : List EH} {rds : List (Nat × Oper × Fr × EV × Nat)} {als : List (Nat × Nat)} {ty : TypeId} {pos : String} {af : Array Edge} {X : Option Dr}

theorem d_pure {t : Tmp} {op : Op} {l : List Oper} {v : EV} {hx : EH} (ht : t < f.n) (hk : kindOf tb op = .pure) (p : opE tb h (base + i) f ⟨some t, op, ty, pos, af, none⟩ = some (.val v hx)) (q : drawAll tb ex ops bef base l (i + 1) ⟨f.wth t v, h, effs, gs, rds, als⟩ = X) :
    drawAll tb ex ops bef base (⟨some t, op, ty, pos, af, none⟩ :: l) i ⟨f, h, effs, gs, rds, als⟩ = X := by
  unfold drawAll drawOne
  simp only [wantedE, p, hk, setDst_put, Fr.put_wth ht]
  exact q
theorem d_read {t : Tmp} {op : Op} {l : List Oper} {v : EV} {hx : EH} (ht : t < f.n) (hk : kindOf tb op = .reader) (p : opE tb h (base + i) f ⟨some t, op, ty, pos, af, none⟩ = some (.val v hx))
    (q : drawAll tb ex ops bef base l (i + 1) ⟨f.wth t v, h, effs, gs, (i, ⟨some t, op, ty, pos, af, none⟩, f, v, effs.length) :: rds, als⟩ = X) :
    drawAll tb ex ops bef base (⟨some t, op, ty, pos, af, none⟩ :: l) i ⟨f, h, effs, gs, rds, als⟩ = X := by
  unfold drawAll drawOne
  simp only [wantedE, p, hk, setDst_put, Fr.put_wth ht]
  exact q
theorem d_alloc {t : Tmp} {op : Op} {l : List Oper} {v : EV} (ht : t < f.n) (hk : kindOf tb op = .alloc) (p : opE tb h (base + i) f ⟨some t, op, ty, pos, af, none⟩ = some (.val v h'))
    (q : drawAll tb ex ops bef base l (i + 1) ⟨f.wth t v, h', effs, gs, rds, (i, effs.length) :: als⟩ = X) :
    drawAll tb ex ops bef base (⟨some t, op, ty, pos, af, none⟩ :: l) i ⟨f, h, effs, gs, rds, als⟩ = X := by
  unfold drawAll drawOne
  simp only [wantedE, p, hk, setDst_put, Fr.put_wth ht]
  exact q
theorem d_call {t : Tmp} {op : Op} {l : List Oper} {v : EV} {g : FuncId} {args : List EV} (ht : t < f.n) (hk : kindOf tb op = .effect) (p : opE tb h (base + i) f ⟨some t, op, ty, pos, af, none⟩ = some (.enter g args)) (c : callWith tb ex g args h = some (v, h'))
    (q : drawAll tb ex ops bef base l (i + 1) ⟨f.wth t v, h', [i], h' :: gs, rds, als⟩ = X) :
    drawAll tb ex ops bef base (⟨some t, op, ty, pos, af, none⟩ :: l) i ⟨f, h, [], gs, rds, als⟩ = X := by
  unfold drawAll drawOne
  simp only [wantedE, p, hk, orWith_enter, c, setDst_put, Fr.put_wth ht]
  exact q
theorem d_store {e : Nat} {op : Op} {l : List Oper} (hk : kindOf tb op = .effect) (p : opE tb h (base + i) f ⟨none, op, ty, pos, af, none⟩ = some (.skip h')) (hb : Nat.testBit (bef.getD i 0) e = true)
    (q : drawAll tb ex ops bef base l (i + 1) ⟨f, h', i :: e :: effs, h' :: gs, rds, als⟩ = X) :
    drawAll tb ex ops bef base (⟨none, op, ty, pos, af, none⟩ :: l) i ⟨f, h, e :: effs, gs, rds, als⟩ = X := by
  unfold drawAll drawOne
  simp only [wantedE, p, hk, hb, orWith_skip, setDst_skip]
  exact q
theorem d_nil {d : Dr} : drawAll tb ex ops bef base [] i d = some d := rfl

theorem x_draw {n k : Nat} {rd : Bool} {d : Dr} (hn : namesOk (Region.before ops).toList ops ops.toList ops.toList 0 = true) (hb : h.next + ops.size ≤ 549755813888)
    (hd : drawAll tb (exec tb n) ops (Region.before ops).toList h.next ops.toList 0 ⟨f, ⟨h.objs, h.next + ops.size⟩, [], [⟨h.objs, h.next + ops.size⟩], [], []⟩ = some d)
    (hc : (d.als.all (fun (i, m) => (d.effs.reverse.drop m).all fun e => Nat.testBit ((Region.before ops).toList.getD e 0) i) && d.rds.all (fun (i, o, f, v, m) => (List.range (d.effs.reverse.length + 1)).all (steadyAt tb (Region.before ops).toList o i f v m d.effs.reverse d.gs.reverse))) = true) :
    exec tb (n + 1) rd (.region k ops true) f h = .normal d.f d.h := by
  rw [exec_draw]
  unfold drawE
  simp only
  rw [hn, Nat.ble_eq_true_of_le hb]
  simp only [Bool.and_self]
  rw [hd]
  simp only
  rw [hc]

def opsOf : Code → Array Oper
  | .region _ o _ => o
  | _ => #[]
noncomputable def mB : Code := Code.at [true, true, false, true, false, false] (bodyOf Go.Proofs.Tryz.f16)
noncomputable def mOps : Array Oper := opsOf (Code.at [true, false, false, false] mB)
theorem mOps_names : namesOk (Region.before mOps).toList mOps mOps.toList mOps.toList 0 = true := by kernel_rfl
theorem mOps_size : mOps.size = 14 := by kernel_rfl
theorem mb1 : Nat.testBit ((Region.before mOps).toList.getD 11 0) 5 = true := by kernel_rfl
theorem mb2 : Nat.testBit ((Region.before mOps).toList.getD 11 0) 10 = true := by kernel_rfl
theorem mb3 : Nat.testBit ((Region.before mOps).toList.getD 5 0) 0 = true := by kernel_rfl
theorem mb4 : Nat.testBit ((Region.before mOps).toList.getD 5 0) 4 = true := by kernel_rfl
theorem mR5 : Code.at [true, false, false, false] mB = .region 5 mOps true := rfl
end Go.Eng

namespace Go.Eng
open Go

theorem steady_ok {tb : Tab} {bef : List Nat} {o : Oper} {i : Nat} {f : Fr} {v : EV} {gs : List EH} (hb : Nat.testBit (bef.getD 5 0) i = true) : (List.range 3).all (steadyAt tb bef o i f v 0 [5, 11] gs) = true := by
  have h0 : steadyAt tb bef o i f v 0 [5, 11] gs 0 = true := by unfold steadyAt; simp
  have h1 : steadyAt tb bef o i f v 0 [5, 11] gs 1 = true := by unfold steadyAt waitedBy; simp only [List.take_succ_cons, List.take_zero, List.any_cons, hb, Bool.true_or, Bool.or_true]
  have h2 : steadyAt tb bef o i f v 0 [5, 11] gs 2 = true := by unfold steadyAt waitedBy; simp only [List.take_succ_cons, List.take_zero, List.any_cons, hb, Bool.true_or, Bool.or_true]
  show ([0, 1, 2] : List Nat).all _ = true
  simp only [List.all_cons, List.all_nil, h0, h1, h2, Bool.and_self]

theorem mr5 {tb : Tab} (T : MW tb) (N : Nat) {s rb ro n i : Nat} {cap : Option Nat} {ids rows xv : EV} {ws : List EV} {l bs : List Nat} {f : Fr} {h : EH} (hn : f.n = 28) (h0 : f.get 0 = some (.slice rb ro n cap 1)) (h3 : f.get 3 = some (.ptr s 0)) (h4 : f.get 4 = some (.int .i64 i)) (hi : i < n)
    (hc : h.cell rb (ro + i) = some xv) (c0 : h.cell s 0 = some ids) (c1 : h.cell s 1 = some rows) (hlow : Low h) (hcap : h.next + 50 * bs.length + 100 * l.length + 2000 < 1000000000)
    (li : ListAt h ids (l.map fun y => .int .u64 ((y : Nat) : Int))) (lr : ListAt h rows ws) (hlen : ws.length = l.length) (hw : ∀ v ∈ ws, v.one = true) (hx : BytesAt h xv bs) (hz : idOf bs ≠ 0) (hne : ∀ y ∈ l, y ≠ idOf bs) :
    ∃ f1 hh ids' rows' q, exec tb (N + bs.length + l.length + 101) false (.region 5 mOps true) f h = .normal f1 hh ∧ f1.n = 28 ∧ f1.get 7 = some (.bool true) ∧ f1.get 5 = some (.ptr q 0) ∧ (∀ t, t < 5 → f1.get t = f.get t) ∧
      Keep h hh (50 * bs.length + 100 * l.length + 600) ∧ hh.cell q 0 = some ids' ∧ hh.cell q 1 = some rows' ∧ ListAt hh ids' ((l ++ [idOf bs]).map fun y => .int .u64 ((y : Nat) : Int)) ∧ ListAt hh rows' (ws ++ [xv]) ∧ NewS h.next ids' ∧ NewS h.next rows' := by
  have ku : Keep h ⟨h.objs, h.next + 14⟩ 14 := Keep.up (by omega) (by omega)
  have hcell : ∀ k, EH.cell ⟨h.objs, k⟩ rb (ro + i) = some xv := fun k => hc
  obtain ⟨h', ids', rows', pc, pk, pi, pr, ⟨sa, sn, sc, se, sl⟩, ⟨ra, rn, rc, re, rl⟩⟩ := put_call T N (h := ⟨h.objs, h.next + 14⟩) (hlow.up (by omega)) (by simp only; omega) (li.keep ku) (lr.keep ku) hlen hw (hx.keep ku) hz hne
  have fresh : ∀ m o, h'.get m = some o → m ≠ h.next + 10 := fun m o e => by
    rcases pk.back m o e with ⟨o', e'⟩ | ⟨z1, z2⟩
    · have := hlow m o' e'; omega
    · simp only at z1; omega
  have plo : h.next + 14 ≤ h'.next := pk.lo
  have phi : h'.next ≤ h.next + 14 + (50 * bs.length + 100 * l.length + 500) := pk.hi
  have plow := pk.low (hlow.up (by omega))
  have i1 : ids'.one = true := pi.one
  have i2 : rows'.one = true := pr.one
  let hs : EH := EH.set (EH.set h' (h.next + 10) (.cells (rowOf [.nilSlice, .nilSlice]) 168 true)) (h.next + 10) (.cells (writeFrom (rowOf [.nilSlice, .nilSlice]) 0 [ids', rows']) 168 true)
  have hsn : hs.next = h'.next := rfl
  have hsg : hs.get (h.next + 10) = some (.cells (writeFrom (rowOf [.nilSlice, .nilSlice]) 0 [ids', rows']) 168 true) := oget_same (by omega)
  have hold : ∀ m o, h'.get m = some o → hs.get m = some o := fun m o e => (oget_other (by omega) (fresh m o e)).trans ((oget_other (by omega) (fresh m o e)).trans e)
  have hk : Keep h hs (50 * bs.length + 100 * l.length + 600) := {
    old := fun m o e => hold m o (pk.old m o e)
    lo := by rw [hsn]; omega
    hi := Nat.le_trans (Nat.le_of_eq hsn) (Nat.le_trans phi (by clear hsg hsn fresh pi pr pk; omega))
    back := fun m o e => by
      have hm : m = h.next + 10 → h.next ≤ m ∧ m < h'.next := fun z => ⟨by omega, by omega⟩
      rcases Go.Eng.T.get_set _ _ _ _ _ _ e with ⟨z, _⟩ | ⟨_, e⟩
      · exact .inr (hm z)
      rcases Go.Eng.T.get_set _ _ _ _ _ _ e with ⟨z, _⟩ | ⟨_, e⟩
      · exact .inr (hm z)
      rcases pk.back m o e with z | ⟨z1, z2⟩
      · exact .inl z
      · exact .inr ⟨by simp only at z1; omega, by rw [hsn]; exact z2⟩ }
  have lkeep : ∀ v us, ListAt h' v us → ListAt hs v us := fun v us a => by
    cases a with
    | nil => exact .nil
    | slice b off cap _ hc => exact .slice b off cap _ fun j hj => cell_old (hold b) (hc j hj)
  have hd : ∃ d, drawAll tb (exec tb (N + bs.length + l.length + 100)) mOps (Region.before mOps).toList h.next mOps.toList 0 ⟨f, ⟨h.objs, h.next + mOps.size⟩, [], [⟨h.objs, h.next + mOps.size⟩], [], []⟩ = some d ∧
      d.h = hs ∧ d.effs = [11, 5] ∧ d.als = [(10, 1)] ∧ (∃ o1 f1 v1 o2 f2 v2, d.rds = [(4, o1, f1, v1, 0), (0, o2, f2, v2, 0)]) ∧ d.f.n = 28 ∧ d.f.get 7 = some (.bool true) ∧ d.f.get 5 = some (.ptr (h.next + 10) 0) ∧ ∀ t, t < 5 → d.f.get t = f.get t := by
    rw [mOps_size]
    refine ⟨?d, ?run, ?rest⟩
    case run =>
      apply d_read
      · simp only [hn, Nat.reduceLT]
      · rfl
      · rw [op_load]
        simp only [ev_tmp, h3]
        rw [show loadE tb ⟨h.objs, h.next + 14⟩ 168 s 0 = some (.agg [ids, rows]) from load_agg2 T c0 c1]
        rfl
      iterate 2 (apply d_pure; (· simp only [Fr.wth_n, hn, Nat.reduceLT]); (· rfl); (· simp only [op_move, ev_tmp, h0, h4, Fr.get_wth_other, Nat.reduceLT, Nat.reduceEqDiff, ne_eq, not_false_eq_true, Option.map_some] <;> rfl))
      apply d_pure
      · simp only [Fr.wth_n, hn, Nat.reduceLT]
      · rfl
      · simp only [op_indexAddr, ev_tmp, Fr.get_wth_same, Fr.get_wth_other, Nat.reduceLT, Nat.reduceEqDiff, ne_eq, not_false_eq_true, T.u44, T.s58, Int.ofNat_lt, hi, Int.natCast_nonneg, and_self, if_true, Int.toNat_natCast, Nat.mul_one] <;> rfl
      apply d_read
      · simp only [Fr.wth_n, hn, Nat.reduceLT]
      · rfl
      · simp only [op_load, ev_tmp, Fr.get_wth_same, Nat.reduceLT, load_one T.u58 (by rfl), hcell, Option.map_some] <;> rfl
      apply d_call
      · simp only [Fr.wth_n, hn, Nat.reduceLT]
      · rfl
      · simp only [op_call, evs_cons, evs_nil, ev_tmp, Fr.get_wth_same, Fr.get_wth_other, Nat.reduceLT, Nat.reduceEqDiff, ne_eq, not_false_eq_true] <;> rfl
      · exact pc
      apply d_pure
      · simp only [Fr.wth_n, hn, Nat.reduceLT]
      · rfl
      · simp only [op_move, ev_tmp, Fr.get_wth_same, Nat.reduceLT, Option.map_some] <;> rfl
      iterate 3 (apply d_pure; (· simp only [Fr.wth_n, hn, Nat.reduceLT]); (· rfl); (· simp only [op_extract, ev_tmp, Fr.get_wth_same, Fr.get_wth_other, Nat.reduceLT, Nat.reduceEqDiff, ne_eq, not_false_eq_true, List.getElem?_cons_zero, List.getElem?_cons_succ, Option.map_some] <;> rfl))
      apply d_alloc
      · simp only [Fr.wth_n, hn, Nat.reduceLT]
      · rfl
      · rw [op_alloc, T.z154]
        simp only [EV.cells, List.all_cons, List.all_nil, EV.one, Bool.and_self, T.s154, List.length_cons, List.length_nil, Nat.zero_add, Nat.reduceAdd, decide_true, cond] <;> rfl
      apply d_store
      · rfl
      · exact op_store_agg (q := h.next + 10) (l := [ids', rows']) (by simp only [ev_tmp, Fr.get_wth_same, Nat.reduceLT] <;> rfl) (by simp only [ev_tmp, Fr.get_wth_same, Fr.get_wth_other, Nat.reduceLT, Nat.reduceEqDiff, ne_eq, not_false_eq_true]) T.s154 (oget_same (by omega)) (by simp only [List.all_cons, List.all_nil, i1, i2, Bool.and_self]) rfl
      · exact mb1
      iterate 2 (apply d_pure; (· simp only [Fr.wth_n, hn, Nat.reduceLT]); (· rfl); (· simp only [op_assign, ev_tmp, Fr.get_wth_same, Fr.get_wth_other, Nat.reduceLT, Nat.reduceEqDiff, ne_eq, not_false_eq_true, Option.map_some] <;> rfl))
      exact d_nil
    case rest =>
      refine ⟨rfl, rfl, rfl, ⟨_, _, _, _, _, _, rfl⟩, by simp only [Fr.wth_n, hn], Fr.get_wth_same (by omega), ?_, ?_⟩
      · simp only [Fr.get_wth_same, Fr.get_wth_other, Nat.reduceLT, Nat.reduceEqDiff, ne_eq, not_false_eq_true] <;> rfl
      · intro t ht
        iterate 13 (rw [Fr.get_wth_other (by omega) (by omega)])
  obtain ⟨d, d1, d2, d3, d4, ⟨o1, g1, v1, o2, g2, v2, d5⟩, d6, d7, d8, d9⟩ := hd
  refine ⟨d.f, d.h, ids', rows', h.next + 10, x_draw mOps_names (by rw [mOps_size]; omega) d1 ?_, d6, d7, d8, d9, d2 ▸ hk, d2 ▸ cell_of hsg rfl, d2 ▸ cell_of hsg rfl, d2 ▸ lkeep _ _ pi, d2 ▸ lkeep _ _ pr, ⟨sa, sn, sc, se, by simp only at sl; omega⟩, ⟨ra, rn, rc, re, by simp only at rl; omega⟩⟩
  rw [d3, d4, d5]
  show ((([(10, 1)] : List (Nat × Nat)).all fun (i, m) => (([5, 11] : List Nat).drop m).all fun e => Nat.testBit ((Region.before mOps).toList.getD e 0) i) && (([(4, o1, g1, v1, 0), (0, o2, g2, v2, 0)] : List (Nat × Oper × Fr × EV × Nat)).all fun (i, o, f, v, m) => (List.range 3).all (steadyAt tb (Region.before mOps).toList o i f v m [5, 11] d.gs.reverse))) = true
  simp only [List.all_cons, List.all_nil, List.drop_succ_cons, List.drop_zero, mb2, steady_ok mb3, steady_ok mb4, Bool.and_self]
end Go.Eng

namespace Go.Eng
open Go

abbrev idVs (bss : List (List Nat)) : List EV := (bss.map idOf).map fun y => .int .u64 ((y : Nat) : Int)

structure MAll (H : EH) (s : Nat) (x : EV) (arr : List EV) (bss : List (List Nat)) : Prop where
  xs : ListAt H x arr
  len : arr.length = bss.length
  big : arr.length ≤ 1000
  row : ∀ j (h1 : j < arr.length) (h2 : j < bss.length), BytesAt H arr[j] bss[j]
  rowl : ∀ bs ∈ bss, bs.length ≤ 1000
  nz : ∀ bs ∈ bss, idOf bs ≠ 0
  apart : ∀ i j (h1 : i < bss.length) (h2 : j < bss.length), i < j → idOf bss[i] ≠ idOf bss[j]
  nx : H.next ≤ 100000000
  sn : ∀ o, H.get s ≠ some o

structure MInv (H : EH) (s : Nat) (x : EV) (arr : List EV) (bss : List (List Nat)) (i : Nat) (f : Fr) (h : EH) : Prop where
  old : ∀ m o, H.get m = some o → h.get m = some o
  low : Low h
  sl : s < h.next
  nx : h.next ≤ H.next + 200000 * i + 100
  n : f.n = 28
  t0 : f.get 0 = some x
  t3 : f.get 3 = some (.ptr s 0)
  t4 : f.get 4 = some (.int .i64 i)
  st : ∃ c ids rows, h.get s = some (.cells c 168 true) ∧ c.get 0 = some ids ∧ c.get 1 = some rows ∧ ListAt h ids (idVs (bss.take i)) ∧ ListAt h rows (arr.take i)

theorem ListAt.mono {h h' : EH} {v : EV} {vs : List EV} (a : ListAt h v vs) (ho : ∀ m o, h.get m = some o → h'.get m = some o) : ListAt h' v vs := by
  cases a with
  | nil => exact .nil
  | slice b off cap _ hc => exact .slice b off cap _ fun j hj => cell_old (ho b) (hc j hj)
theorem BytesAt.mono {h h' : EH} {x : EV} {l : List Nat} (hb : BytesAt h x l) (ho : ∀ m o, h.get m = some o → h'.get m = some o) : BytesAt h' x l :=
  let ⟨b, off, cap, e, hc⟩ := hb.at'; ⟨hb.lt, b, off, cap, e, fun j hj => cell_old (ho b) (hc j hj)⟩

theorem mr3 {tb : Tab} (T : MW tb) {i : Nat} {x : EV} {arr : List EV} {bb : Bool} (fu : Nat) {f : Fr} {h : EH} (hn : f.n = 28) (h0 : f.get 0 = some x) (h4 : f.get 4 = some (.int .i64 i)) (hx : ListAt h x arr) (hi : decide (i < arr.length) = bb) :
    ∃ f1, exec tb (fu + 10) false (Code.at [false, false] mB) f h = .normal f1 ⟨h.objs, h.next + 4⟩ ∧ f1.n = 28 ∧ f1.get 12 = some (.bool bb) ∧ ∀ t, t < 9 → f1.get t = f.get t := by
  have hlen : ∀ k, lenE tb ⟨h.objs, k⟩ 48 x = some (.int .i64 ((arr.length : Nat) : Int)) := fun k => hx.len T.u44
  refine ⟨?f1, ?run, ?rest⟩
  case run =>
    apply x_region
    apply r_val
    · simp only [Fr.wth_n, hn, Nat.reduceLT]
    · simp only [op_move, ev_tmp, h4, Option.map_some] <;> rfl
    apply r_val
    · simp only [Fr.wth_n, hn, Nat.reduceLT]
    · simp only [op_move, ev_tmp, h0, Fr.get_wth_other, Nat.reduceLT, Nat.reduceEqDiff, ne_eq, not_false_eq_true, Option.map_some] <;> rfl
    apply r_val
    · simp only [Fr.wth_n, hn, Nat.reduceLT]
    · simp only [op_len, ev_tmp, Fr.get_wth_same, Nat.reduceLT, hlen, Option.map_some] <;> rfl
    apply r_val
    · simp only [Fr.wth_n, hn, Nat.reduceLT]
    · simp only [op_binOp, ev_tmp, Fr.get_wth_same, Fr.get_wth_other, Nat.reduceLT, Nat.reduceEqDiff, ne_eq, not_false_eq_true, Option.map_some, bin_lss, guard_int, cond, Int.ofNat_lt, hi] <;> rfl
    exact r_nil
  case rest =>
    refine ⟨by simp only [Fr.wth_n, hn], Fr.get_wth_same (by omega), fun t h1 => ?_⟩
    iterate 4 (rw [Fr.get_wth_other (by omega) (by omega)])

theorem un_not {tb : Tab} {b : Bool} : unE .not (.bool b) = some (.bool (!b)) := rfl

theorem mr6 {tb : Tab} (fu : Nat) {f : Fr} {h : EH} (hn : f.n = 28) (h7 : f.get 7 = some (.bool true)) :
    ∃ f1, exec tb (fu + 10) false (Code.at [true, false, false, true, false] mB) f h = .normal f1 ⟨h.objs, h.next + 2⟩ ∧ f1.n = 28 ∧ ∀ t, t < 25 → f1.get t = f.get t := by
  refine ⟨?f1, ?run, ?n, ?gt⟩
  case run =>
    apply x_seq
    · apply x_region
      apply r_val
      · simp only [hn, Nat.reduceLT]
      · simp only [op_move, ev_tmp, h7, Option.map_some] <;> rfl
      apply r_val
      · simp only [Fr.wth_n, hn, Nat.reduceLT]
      · simp only [op_unOp, ev_tmp, Fr.get_wth_same, Nat.reduceLT, un_not (tb := tb), Bool.not_true, Option.map_some] <;> rfl
      exact r_nil
    · apply x_cond_f
      · simp only [ev_tmp, Fr.get_wth_same, Nat.reduceLT]
      · exact exec_skip
  case n => simp only [Fr.wth_n, hn]
  case gt =>
    intro t a
    iterate 2 (rw [Fr.get_wth_other (by omega) (by omega)])

theorem mr8 {tb : Tab} (T : MW tb) (fu : Nat) {q s : Nat} {a b : EV} {c : Go.Eng.T EV} {f : Fr} {h : EH} (hn : f.n = 28) (h5 : f.get 5 = some (.ptr q 0)) (h3 : f.get 3 = some (.ptr s 0)) (c0 : h.cell q 0 = some a) (c1 : h.cell q 1 = some b) (ha : a.one = true) (hb : b.one = true)
    (gs : h.get s = some (.cells c 168 true)) (hr : (readFrom c 0 2).isSome = true) :
    ∃ f1, exec tb (fu + 10) false (Code.at [true, false, false, true, true] mB) f h = .normal f1 ⟨(h.set s (.cells (writeFrom c 0 [a, b]) 168 true)).objs, h.next + 2⟩ ∧ f1.n = 28 ∧ ∀ t, t < 25 → f1.get t = f.get t := by
  refine ⟨?f1, ?run, ?n, ?gt⟩
  case run =>
    apply x_region
    apply r_val
    · simp only [hn, Nat.reduceLT]
    · rw [op_load]
      simp only [ev_tmp, h5]
      rw [show loadE tb ⟨h.objs, h.next + 1⟩ 168 q 0 = some (.agg [a, b]) from load_agg2 T c0 c1]
      rfl
    apply r_skip
    · exact op_store_agg (q := s) (l := [a, b]) (by simp only [ev_tmp, h3, Fr.get_wth_other, Nat.reduceLT, Nat.reduceEqDiff, ne_eq, not_false_eq_true]) (by simp only [ev_tmp, Fr.get_wth_same, Nat.reduceLT]) T.s154 gs (by simp only [List.all_cons, List.all_nil, ha, hb, Bool.and_self]) hr
    exact r_nil
  case n => simp only [Fr.wth_n, hn]
  case gt =>
    intro t a
    rw [Fr.get_wth_other (by omega) (by omega)]

theorem mr4 {tb : Tab} {i : Nat} (fu : Nat) {f : Fr} {h : EH} (hn : f.n = 28) (h4 : f.get 4 = some (.int .i64 i)) (hi : i < 1000000000) :
   ∃ f1, exec tb (fu + 10) false (Code.at [true, true] mB) f h = .normal f1 ⟨h.objs, h.next + 3⟩ ∧ f1.n = 28 ∧ f1.get 4 = some (.int .i64 ((i + 1 : Nat) : Int)) ∧ ∀ t, t < 4 → f1.get t = f.get t := by
  have hadd := add_i64 i (by omega)
  refine ⟨?f1, ?run, ?rest⟩
  case run =>
    apply x_region
    iterate 3 (apply r_val; (· simp only [Fr.wth_n, hn, Nat.reduceLT]); (· simp only [op_move, op_assign, op_binOp, ev_tmp, ev_const, conv_int, h4, Fr.get_wth_same, Nat.reduceLT, Option.map_some, bin_add, guard_int, cond, hadd] <;> rfl))
    exact r_nil
  case rest =>
    refine ⟨by simp only [Fr.wth_n, hn], Fr.get_wth_same (by omega), fun t h1 => ?_⟩
    iterate 3 (rw [Fr.get_wth_other (by omega) (by omega)])

theorem wf1 {c : Go.Eng.T EV} {a b : EV} : (writeFrom c 0 [a, b]).get 1 = some b := Go.Eng.T.get_set_same deep (Go.Eng.T.set deep c 0 a) 1 b (by simp only [deep]; omega)
theorem wf0 {c : Go.Eng.T EV} {a b : EV} : (writeFrom c 0 [a, b]).get 0 = some a := (Go.Eng.T.get_set_other deep (Go.Eng.T.set deep c 0 a) 1 0 b (by simp only [deep]; omega) (by omega)).trans (Go.Eng.T.get_set_same deep c 0 a (by simp only [deep]; omega))

theorem m_body {tb : Tab} (T : MW tb) {H : EH} {s i : Nat} {x : EV} {arr : List EV} {bss : List (List Nat)} (A : MAll H s x arr bss) {f : Fr} {h : EH} (I : MInv H s x arr bss i f h) (hi : i < arr.length) (fu : Nat) (hfu : 3000 ≤ fu) :
    ∃ f' h', exec tb (fu + 20) false mB f h = .normal f' h' ∧ MInv H s x arr bss (i + 1) f' h' := by
  have hlen := A.len
  have hbig := A.big
  have hi2 : i < bss.length := by omega
  have hmem := List.getElem_mem hi2
  have hrl := A.rowl _ hmem
  have hHn := A.nx
  have hnx := I.nx
  have hsl := I.sl
  obtain ⟨f1, r1, n1, t1, k1⟩ := mr3 (bb := true) T (fu + 8) I.n I.t0 I.t4 (A.xs.mono I.old) (by simpa using hi)
  obtain ⟨rb, ro, cap, hx, hrc⟩ := A.xs.inv hi
  obtain ⟨c, ids, rows, gs, gc0, gc1, li, lr⟩ := I.st
  have kup : Keep h ⟨h.objs, h.next + 4⟩ 4 := Keep.up (by omega) (by omega)
  have htl : ((bss.take i).map idOf).length = i := by simp; omega
  have hne : ∀ y ∈ (bss.take i).map idOf, y ≠ idOf bss[i] := by
    intro y hy
    rw [List.mem_map] at hy
    obtain ⟨bs, hbs, rfl⟩ := hy
    obtain ⟨j, hj, rfl⟩ := List.getElem_of_mem hbs
    have hji : j < i := by simp at hj; omega
    rw [List.getElem_take]
    exact A.apart j i (by omega) hi2 hji
  obtain ⟨N, hN⟩ : ∃ N, fu + 16 = N + (bss[i]).length + ((bss.take i).map idOf).length + 101 := ⟨fu - 85 - (bss[i]).length - ((bss.take i).map idOf).length, by rw [htl]; omega⟩
  have hws : ∀ v ∈ arr.take i, v.one = true := by
    intro v hv
    obtain ⟨j, hj, rfl⟩ := List.getElem_of_mem (List.mem_of_mem_take hv)
    obtain ⟨_, _, _, e, _⟩ := (A.row j hj (by omega)).at'
    rw [e]; rfl
  obtain ⟨f2, h2, ids', rows', q, r2, n2, t7, t5, k2, K2, q0, q1, li', lr', ⟨sa, sn, sc, se, sl⟩, ⟨ra, rn, rc, re, rl⟩⟩ := mr5 T N (h := ⟨h.objs, h.next + 4⟩) (ws := arr.take i) (l := (bss.take i).map idOf) (bs := bss[i]) (xv := arr[i]) n1 ((k1 0 (by omega)).trans (I.t0.trans (by rw [hx]))) ((k1 3 (by omega)).trans I.t3) ((k1 4 (by omega)).trans I.t4) hi
    (cell_old (I.old rb) (hrc i hi)) (cell_of (h := ⟨h.objs, h.next + 4⟩) gs gc0) (cell_of (h := ⟨h.objs, h.next + 4⟩) gs gc1) (I.low.up (by omega)) (by rw [htl]; simp only; omega) (li.keep kup) (lr.keep kup) (by rw [htl]; simp; omega) hws ((A.row i hi hi2).mono I.old) (A.nz _ hmem) hne
  rw [← hN] at r2
  have K2h := K2.hi
  have K2l := K2.lo
  rw [htl] at K2h
  simp only at K2h K2l
  obtain ⟨f3, r3, n3, k3⟩ := mr6 (tb := tb) (fu + 5) (h := h2) n2 t7
  have gs2 : h2.get s = some (.cells c 168 true) := K2.old s _ gs
  have hrd : (readFrom c 0 2).isSome = true := by simp only [readFrom, gc0, gc1]; rfl
  obtain ⟨f4, r4, n4, k4⟩ := mr8 T (fu + 5) (h := ⟨h2.objs, h2.next + 2⟩) n3 ((k3 5 (by omega)).trans t5) ((k3 3 (by omega)).trans ((k2 3 (by omega)).trans ((k1 3 (by omega)).trans I.t3))) q0 q1 li'.one lr'.one gs2 hrd
  let hS : EH := EH.set h2 s (.cells (writeFrom c 0 [ids', rows']) 168 true)
  have hSs : hS.get s = some (.cells (writeFrom c 0 [ids', rows']) 168 true) := oget_same (by omega)
  have hSo : ∀ m, m ≠ s → hS.get m = h2.get m := fun m hm => oget_other (by omega) hm
  simp only at sl rl
  obtain ⟨f5, r5, n5, t4, k5⟩ := mr4 (tb := tb) (i := i) (fu + 8) (f := f4) (h := ⟨hS.objs, h2.next + 2 + 2⟩) n4 ((k4 4 (by omega)).trans ((k3 4 (by omega)).trans ((k2 4 (by omega)).trans ((k1 4 (by omega)).trans I.t4)))) (by omega)
  have lmono : ∀ v us, ListAt h2 v us → (∃ a n c, v = .slice a 0 n c 1 ∧ a ≠ s) → ListAt ⟨hS.objs, h2.next + 2 + 2 + 3⟩ v us := by
    intro v us a ⟨aa, nn, cc, e, hne⟩
    cases a with
    | nil => cases e
    | slice b off cap _ hc =>
      cases e
      exact .slice _ _ _ _ fun j hj => cell_old (fun o e => (hSo _ hne).trans e) (hc j hj)
  refine ⟨f5, ⟨hS.objs, h2.next + 2 + 2 + 3⟩, ?run, ?inv⟩
  case run =>
    apply x_seq
    · apply x_seq
      · exact r1
      · apply x_cond_t
        · exact t1
        · exact exec_skip
    · apply x_seq
      · apply x_block
        apply x_seq
        · exact r2
        · apply x_seq
          · exact r3
          · exact r4
      · exact r5
  case inv =>
    have tk : bss.take (i + 1) = bss.take i ++ [bss[i]] := by rw [List.take_add_one, List.getElem?_eq_getElem hi2]; rfl
    have ta : arr.take (i + 1) = arr.take i ++ [arr[i]] := by rw [List.take_add_one, List.getElem?_eq_getElem hi]; rfl
    exact {
      old := fun m o e => by
        have h1 := K2.old m o (I.old m o e)
        by_cases hm : m = s
        · subst hm
          exact absurd e (A.sn o)
        · exact (hSo m hm).trans h1
      low := fun m o e => by
        rcases Go.Eng.T.get_set _ _ _ _ _ _ e with ⟨z, _⟩ | ⟨_, e2⟩
        · show m < h2.next + 2 + 2 + 3; omega
        · have : m < h2.next := K2.low (I.low.up (by omega)) m o e2
          show m < h2.next + 2 + 2 + 3; omega
      sl := by show s < h2.next + 2 + 2 + 3; omega
      nx := by show h2.next + 2 + 2 + 3 ≤ _; omega
      n := n5
      t0 := (k5 0 (by omega)).trans ((k4 0 (by omega)).trans ((k3 0 (by omega)).trans ((k2 0 (by omega)).trans ((k1 0 (by omega)).trans I.t0))))
      t3 := (k5 3 (by omega)).trans ((k4 3 (by omega)).trans ((k3 3 (by omega)).trans ((k2 3 (by omega)).trans ((k1 3 (by omega)).trans I.t3))))
      t4 := t4
      st := ⟨_, ids', rows', hSs, wf0, wf1, by rw [idVs, tk, List.map_append]; exact lmono _ _ li' ⟨sa, sn, sc, se, by omega⟩, by rw [ta]; exact lmono _ _ lr' ⟨ra, rn, rc, re, by omega⟩⟩ }

theorem m_loop {tb : Tab} (T : MW tb) {H : EH} {s : Nat} {x : EV} {arr : List EV} {bss : List (List Nat)} (A : MAll H s x arr bss) (N : Nat) :
    ∀ (k i : Nat) (f : Fr) (h : EH), i + k = arr.length → MInv H s x arr bss i f h → ∃ f' h', exec tb (N + k + 5000) false (.loop mB) f h = .exit 0 f' h' ∧ f'.n = 28 ∧ ∀ m o, H.get m = some o → h'.get m = some o := by
  intro k
  induction k with
  | zero =>
    intro i f h hi I
    obtain ⟨f1, r1, n1, t1, k1⟩ := mr3 (bb := false) T (N + 4987) I.n I.t0 I.t4 (A.xs.mono I.old) (by simp; omega)
    refine ⟨f1, ⟨h.objs, h.next + 4⟩, ?run, n1, I.old⟩
    apply x_loop_exit
    apply x_seq_exit
    apply x_seq
    · exact r1
    · apply x_cond_f
      · exact t1
      · exact exec_exit
  | succ k ih =>
    intro i f h hi I
    obtain ⟨f1, h1, e1, I1⟩ := m_body T A I (by omega) (N + k + 4980) (by omega)
    obtain ⟨f2, h2, e2, n2, o2⟩ := ih (i + 1) f1 h1 (by omega) I1
    rw [show N + k + 4980 + 20 = N + k + 5000 from by omega] at e1
    refine ⟨f2, h2, ?_, n2, o2⟩
    rw [show N + (k + 1) + 5000 = (N + k + 5000) + 1 from by omega]
    exact x_loop e1 e2

theorem fs_places {tb : Tab} (T : MW tb) : fieldPlaces tb FS.toList = some [(0, 1), (1, 1)] := by
  obtain ⟨fd0, p1, p2, p3⟩ := FS0
  obtain ⟨fd1, q1, q2, q3⟩ := FS1
  have hfs : FS.toList = [fd0, fd1] := by
    have hlen : FS.toList.length = 2 := rfl
    have e0 : FS.toList[0]? = some fd0 := by rw [← p1]; simp
    have e1 : FS.toList[1]? = some fd1 := by rw [← q1]; simp
    match hL : FS.toList, hlen, e0, e1 with
    | [u, v], _, e0, e1 => simp at e0 e1; rw [e0, e1]
  rw [hfs]
  simp only [fieldPlaces, p3, q3, T.s45, T.s44, p2, q2]

theorem build0 {tb : Tab} (T : MW tb) {hh : EH} {nm : Nat} {f : Fr} {dst : Option Tmp} {ty : TypeId} {pos : String} {af : Array Edge} : opE tb hh nm f ⟨dst, .build 168 #[], ty, pos, af, none⟩ = some (.val (.agg [.nilSlice, .nilSlice]) hh) := by
  rw [op_build, show partsE f (#[] : Array (Nat × Operand)).toList = some [] from rfl]
  simp only
  have hbld : buildE tb 168 [] = some (.agg [.nilSlice, .nilSlice]) := by
    unfold buildE
    rw [T.z154]
    simp only [T.u154]
    rw [fs_places T]
    rfl
  rw [hbld]
  rfl

/-- Meets, where no two rows have one id: false; what was is there still. -/
theorem meets_call {tb : Tab} (T : MW tb) (i23 : tb.intr 16 = none) (f23 : tb.fn 16 = some Go.Proofs.Tryz.f16) {h : EH} {x : EV} {arr : List EV} {bss : List (List Nat)} (hlow : Low h) (A : MAll h (h.next + 2) x arr bss) :
    ∃ N h', callWith tb (exec tb N) 16 [x] h = some (.bool false, h') ∧ ∀ m o, h.get m = some o → h'.get m = some o := by
  have hnx := A.nx
  let f0 : Fr := initFr 28 [x]
  have h0 : f0.get 0 = some x := rfl
  let h3 : EH := EH.set (EH.set h (h.next + 2) (.cells (rowOf [.nilSlice, .nilSlice]) 168 true)) (h.next + 2) (.cells (writeFrom (rowOf [.nilSlice, .nilSlice]) 0 [.nilSlice, .nilSlice]) 168 true)
  have hs3 : h3.get (h.next + 2) = some (.cells (writeFrom (rowOf [.nilSlice, .nilSlice]) 0 [.nilSlice, .nilSlice]) 168 true) := oget_same (by omega)
  have hold : ∀ m o, h.get m = some o → h3.get m = some o := fun m o e => by
    have hm : m ≠ h.next + 2 := by have := hlow m o e; omega
    exact (oget_other (by omega) hm).trans ((oget_other (by omega) hm).trans e)
  let f4 : Fr := (((f0.wth 2 (.bool false)).wth 8 (.agg [.nilSlice, .nilSlice])).wth 3 (.ptr (h.next + 2) 0)).wth 4 (.int .i64 0)
  have I : MInv h (h.next + 2) x arr bss 0 f4 ⟨h3.objs, h.next + 5⟩ := {
    old := hold
    low := fun m o e => by
      rcases Go.Eng.T.get_set _ _ _ _ _ _ e with ⟨z, _⟩ | ⟨_, e⟩
      · show m < h.next + 5; omega
      rcases Go.Eng.T.get_set _ _ _ _ _ _ e with ⟨z, _⟩ | ⟨_, e⟩
      · show m < h.next + 5; omega
      have := hlow m o e
      show m < h.next + 5; omega
    sl := by show h.next + 2 < h.next + 5; omega
    nx := by show h.next + 5 ≤ _; omega
    n := rfl
    t0 := by simp only [f4, Fr.get_wth_other, h0, Nat.reduceLT, Nat.reduceEqDiff, ne_eq, not_false_eq_true]
    t3 := by simp only [f4, Fr.get_wth_same, Fr.get_wth_other, Nat.reduceLT, Nat.reduceEqDiff, ne_eq, not_false_eq_true]
    t4 := Fr.get_wth_same (by omega)
    st := ⟨_, .nilSlice, .nilSlice, hs3, wf0, wf1, by simp only [idVs, List.take_zero, List.map_nil]; exact .nil, by rw [List.take_zero]; exact .nil⟩ }
  obtain ⟨f5, h5, r5, n5, o5⟩ := m_loop T A 0 arr.length 0 f4 ⟨h3.objs, h.next + 5⟩ (by omega) I
  refine ⟨arr.length + 5005, ⟨h5.objs, h5.next + 1⟩, ?_, o5⟩
  refine call_ret (vs := [.bool false]) i23 f23 rfl rfl (f := f5.wth 2 (.bool false)) ?run ?res
  case run =>
    apply x_seq
    · apply x_region
      apply r_val
      · exact (by omega : 2 < 28)
      · simp only [op_assign, ev_const, conv_bool, Option.map_some] <;> rfl
      exact r_nil
    apply x_seq
    · apply x_region
      apply r_val
      · exact (by omega : 8 < 28)
      · exact build0 T
      apply r_val
      · exact (by omega : 3 < 28)
      · rw [op_alloc, T.z154]
        simp only [EV.cells, List.all_cons, List.all_nil, EV.one, Bool.and_self, T.s154, List.length_cons, List.length_nil, Nat.zero_add, Nat.reduceAdd, decide_true, cond] <;> rfl
      apply r_skip
      · exact op_store_agg (q := h.next + 2) (l := [.nilSlice, .nilSlice]) (by simp only [ev_tmp, Fr.get_wth_same, Nat.reduceLT] <;> rfl) (by simp only [ev_tmp, Fr.get_wth_same, Fr.get_wth_other, Nat.reduceLT, Nat.reduceEqDiff, ne_eq, not_false_eq_true]) T.s154 (oget_same (by omega)) rfl rfl
      exact r_nil
    apply x_seq
    · apply x_seq
      · apply x_region
        apply r_val
        · exact (by omega : 4 < 28)
        · simp only [op_assign, ev_const, conv_int, Option.map_some] <;> rfl
        exact r_nil
      · apply x_block_exit
        rw [Nat.zero_add] at r5
        exact r5
    apply x_seq
    · apply x_region
      apply r_val
      · simp only [n5, Nat.reduceLT]
      · simp only [op_assign, ev_const, conv_bool, Option.map_some] <;> rfl
      exact r_nil
    · exact exec_ret
  case res => exact res_one (Fr.get_wth_same (by omega))
end Go.Eng

/- A part of the proof of EmbedNoneCardSaid: the runs of the document's example and of the law's body, and facts of the row. Conditions: none. -/
import Derived.Test.YteohoaogoakljaaGreatDoorMeetsE
namespace Go.Eng
open Go

/-! Find where the id is there. -/
theorem x_block_ret {tb : Tab} {n : Nat} {rd : Bool} {f f1 : Fr} {h h1 : EH} {i : Nat} {b : Code} (p : exec tb n rd b f h = .ret f1 h1) : exec tb (n + 1) rd (.block i b) f h = .ret f1 h1 := by rw [exec_block, p]
theorem x_loop_ret {tb : Tab} {n : Nat} {rd : Bool} {f f1 : Fr} {h h1 : EH} {b : Code} (p : exec tb n rd b f h = .ret f1 h1) : exec tb (n + 1) rd (.loop b) f h = .ret f1 h1 := by rw [exec_loop, p]

theorem find_body_hit {tb : Tab} (T : MU tb) {p b off n i x : Nat} {cap : Option Nat} (fu : Nat) {f : Fr} {h : EH}
   (hn : f.n = 21) (h2 : f.get 2 = some (.ptr p 0)) (h1 : f.get 1 = some (.int .u64 x)) (h5 : f.get 5 = some (.int .i64 i)) (hi : i < n) (hp : h.cell p 0 = some (.slice b off n cap 1))
   (hc : h.cell b (off + i) = some (.int .u64 x)) :
   ∃ f1, exec tb (fu + 10) false findB f h = .ret f1 ⟨h.objs, h.next + 14⟩ ∧ f1.n = 21 ∧ f1.get 4 = some (.int .i64 i) := by
  have hcell : ∀ k, EH.cell ⟨h.objs, k⟩ b (off + i) = some (.int .u64 x) := fun k => hc
  have hpc : ∀ k, EH.cell ⟨h.objs, k⟩ p 0 = some (.slice b off n cap 1) := fun k => hp
  refine ⟨?f1, ?run, ?n, ?g⟩
  case run =>
    apply x_seq
    · apply x_seq
      · apply x_region
        apply r_val
        · simp only [Fr.wth_n, hn, Nat.reduceLT]
        · simp only [op_move, ev_tmp, h5, Option.map_some] <;> rfl
        apply r_val
        · simp only [Fr.wth_n, hn, Nat.reduceLT]
        · apply fa0 T
          simp only [ev_tmp, h2, Fr.get_wth_other, Nat.reduceLT, Nat.reduceEqDiff, ne_eq, not_false_eq_true] <;> rfl
        apply r_val
        · simp only [Fr.wth_n, hn, Nat.reduceLT]
        · simp only [op_load, ev_tmp, Fr.get_wth_same, Nat.reduceLT, load_one T.u45 (by rfl), hpc, Option.map_some] <;> rfl
        apply r_val
        · simp only [Fr.wth_n, hn, Nat.reduceLT]
        · simp only [op_len, ev_tmp, Fr.get_wth_same, Nat.reduceLT, len_slice T.u45, Option.map_some] <;> rfl
        apply r_val
        · simp only [Fr.wth_n, hn, Nat.reduceLT]
        · simp only [op_binOp, ev_tmp, Fr.get_wth_same, Fr.get_wth_other, Nat.reduceLT, Nat.reduceEqDiff, ne_eq, not_false_eq_true, Option.map_some, bin_lss, guard_int, cond, Int.ofNat_lt, hi, decide_true] <;> rfl
        exact r_nil
      · apply x_cond_t
        · simp only [ev_tmp, Fr.get_wth_same, Nat.reduceLT]
        · exact exec_skip
    · apply x_seq_ret
      apply x_block_ret
      apply x_seq
      · apply x_region
        apply r_val
        · simp only [Fr.wth_n, hn, Nat.reduceLT]
        · apply fa0 T
          simp only [ev_tmp, h2, Fr.get_wth_other, Nat.reduceLT, Nat.reduceEqDiff, ne_eq, not_false_eq_true] <;> rfl
        apply r_val
        · simp only [Fr.wth_n, hn, Nat.reduceLT]
        · simp only [op_load, ev_tmp, Fr.get_wth_same, Nat.reduceLT, load_one T.u45 (by rfl), hpc, Option.map_some] <;> rfl
        iterate 5 (apply r_val; (· simp only [Fr.wth_n, hn, Nat.reduceLT]); (· simp only [op_move, op_indexAddr, op_load, op_binOp, ev_tmp, h1, h5, Fr.get_wth_same, Fr.get_wth_other, Nat.reduceLT, Nat.reduceEqDiff, ne_eq, not_false_eq_true, Option.map_some, T.u45, T.s23, load_one T.u23 (by rfl), hcell, bin_eql, guard_int, cond, Int.ofNat_lt, hi, Int.natCast_nonneg, and_self, if_true, Int.toNat_natCast, Nat.mul_one, decide_true] <;> rfl))
        exact r_nil
      · apply x_cond_t
        · simp only [ev_tmp, Fr.get_wth_same, Nat.reduceLT]
        · apply x_seq
          · apply x_region
            iterate 2 (apply r_val; (· simp only [Fr.wth_n, hn, Nat.reduceLT]); (· simp only [op_move, op_assign, ev_tmp, h5, Fr.get_wth_same, Fr.get_wth_other, Nat.reduceLT, Nat.reduceEqDiff, ne_eq, not_false_eq_true, Option.map_some] <;> rfl))
            exact r_nil
          · exact exec_ret
  case n => simp only [Fr.wth_n, hn]
  case g => exact Fr.get_wth_same (by omega)

theorem find_loop_hit {tb : Tab} (T : MU tb) {p x : Nat} {ids : EV} {l : List Nat} (hbig : l.length < 1000000000000000) (hx : ∃ k, ∃ hk : k < l.length, l[k] = x ∧ ∀ j (hj : j < k), l[j] ≠ x) :
   ∃ k, ∃ hk : k < l.length, l[k] = x ∧ ∀ (N d i : Nat) (f : Fr) (h : EH), f.n = 21 → f.get 2 = some (.ptr p 0) → f.get 1 = some (.int .u64 x) → f.get 5 = some (.int .i64 i) → i + d = k → h.cell p 0 = some ids → ListAt h ids (l.map fun y => .int .u64 ((y : Nat) : Int)) →
   ∃ f' h', exec tb (N + d + 20) false (.loop findB) f h = .ret f' h' ∧ f'.n = 21 ∧ f'.get 4 = some (.int .i64 k) ∧ h'.objs = h.objs ∧ h.next ≤ h'.next ∧ h'.next ≤ h.next + 15 * d + 14 := by
  obtain ⟨k, hk, hkx, hne⟩ := hx
  refine ⟨k, hk, hkx, fun N d => ?_⟩
  induction d with
  | zero =>
    intro i f h hn h2 h1 h5 hi hp hl
    have hik : i = k := by omega
    subst hik
    have hkm : i < (l.map fun y => EV.int .u64 ((y : Nat) : Int)).length := by rw [List.length_map]; exact hk
    obtain ⟨b, off, cap, rfl, hc⟩ := hl.inv hkm
    have hci := hc i hkm
    rw [List.getElem_map, hkx] at hci
    obtain ⟨f1, e1, e2, e3⟩ := find_body_hit T (N + 9) hn h2 h1 h5 hkm hp hci
    refine ⟨f1, ⟨h.objs, h.next + 14⟩, ?_, e2, e3, rfl, by simp only; omega, by simp only; omega⟩
    rw [show N + 0 + 20 = (N + 9 + 10) + 1 from by omega]
    exact x_loop_ret e1
  | succ d ih =>
    intro i f h hn h2 h1 h5 hi hp hl
    have hlt : i < l.length := by omega
    obtain ⟨b, off, cap, rfl, hc⟩ := hl.inv (i := i) (by simpa using hlt)
    have hci := hc i (by simpa using hlt)
    rw [List.getElem_map] at hci
    obtain ⟨f1, e1, e2, e3, e4, e5⟩ := find_body T (N + d + 10) (by simpa using hbig) hn h2 h1 h5 (by simpa using hlt) hp hci (hne i (by omega))
    obtain ⟨f2, h2', g1, g2, g3, g4, g5, g6⟩ := ih (i + 1) f1 ⟨h.objs, h.next + 15⟩ e2 e3 e4 e5 (by omega) hp (hl.keep (B := 15) (Keep.up (by omega) (by omega)))
    rw [show N + d + 10 + 10 = N + d + 20 from by omega] at e1
    refine ⟨f2, h2', ?_, g2, g3, g4, by simp only at g5; omega, by simp only at g6; omega⟩
    rw [show N + (d + 1) + 20 = (N + d + 20) + 1 from by omega]
    exact x_loop e1 g1

theorem first_hit {l : List Nat} {x : Nat} (hx : x ∈ l) : ∃ k, ∃ hk : k < l.length, l[k] = x ∧ ∀ j (hj : j < k), l[j] ≠ x := by
  induction l with
  | nil => cases hx
  | cons a l ih =>
    by_cases ha : a = x
    · exact ⟨0, by simp, ha, fun j hj => by omega⟩
    · rcases List.mem_cons.1 hx with h | h
      · exact absurd h.symm ha
      · obtain ⟨k, hk, e, hne⟩ := ih h
        refine ⟨k + 1, by simp; omega, e, fun j hj => ?_⟩
        cases j with
        | zero => exact ha
        | succ j => exact hne j (by omega)

theorem find_hit {tb : Tab} (T : MU tb) (hi : tb.intr 131 = none) (hf : tb.fn 131 = some Go.Proofs.Tryz.f131) (N : Nat) {h : EH} {ids rows : EV} {l : List Nat} {x : Nat} (hlow : Low h) (hcap : h.next < 100000000000)
    (hl : ListAt h ids (l.map fun y => .int .u64 ((y : Nat) : Int))) (ho : ids.one = true ∧ rows.one = true) (hx : x ∈ l) (hlen : l.length < 1000000000) :
    ∃ h' k, ∃ hk : k < l.length, l[k] = x ∧ callWith tb (exec tb (N + l.length + 60)) 131 [.agg [ids, rows], .int .u64 x] h = some (.int .i64 k, h') ∧ Keep h h' (15 * l.length + 20) := by
  let f0 : Fr := initFr 21 [.agg [ids, rows], .int .u64 x]
  have h0 : f0.get 0 = some (.agg [ids, rows]) := rfl
  have h1 : f0.get 1 = some (.int .u64 x) := rfl
  let hp : EH := EH.set ⟨h.objs, h.next + 1⟩ h.next (.cells (rowOf [ids, rows]) 168 true)
  have hpg : hp.get h.next = some (.cells (rowOf [ids, rows]) 168 true) := EH.get_set_same (h := ⟨h.objs, h.next + 1⟩) (by omega)
  have hpo : ∀ m o, h.get m = some o → hp.get m = some o := fun m o e => (EH.get_set_other (h := ⟨h.objs, h.next + 1⟩) (by omega) (by have := hlow m o e; omega)).trans e
  have hpb : ∀ m o, hp.get m = some o → (∃ o', h.get m = some o') ∨ m = h.next := fun m o e => by
    rcases Go.Eng.T.get_set _ _ _ _ _ _ e with ⟨h1, _⟩ | ⟨_, h2⟩
    · exact .inr h1
    · exact .inl ⟨o, h2⟩
  have hpk : Keep h ⟨hp.objs, h.next + 3⟩ 3 := ⟨hpo, by show h.next ≤ h.next + 3; omega, Nat.le_refl _, fun m o e => (hpb m o e).imp id fun h1 => ⟨by omega, by show m < h.next + 3; omega⟩⟩
  have hpc : hp.cell h.next 0 = some ids := by unfold EH.cell; rw [hpg]; rfl
  let f5 := ((f0.wth 2 (.ptr h.next 0)).wth 4 (.int .i64 0)).wth 5 (.int .i64 0)
  obtain ⟨k, hk, hkx, hrun⟩ := find_loop_hit T (p := h.next) (ids := ids) (by omega : l.length < 1000000000000000) (first_hit hx)
  obtain ⟨f', h', g1, g2, g3, g4, g5, g6⟩ := hrun (N + 36 + (l.length - k)) k 0 f5 ⟨hp.objs, h.next + 3⟩ rfl
    (by simp only [f5, Fr.get_wth_same, Fr.get_wth_other, Nat.reduceLT, Nat.reduceEqDiff, ne_eq, not_false_eq_true])
    (by simp only [f5, Fr.get_wth_other, h1, Nat.reduceLT, Nat.reduceEqDiff, ne_eq, not_false_eq_true]) (Fr.get_wth_same (by omega)) (by omega) hpc
    (hl.keep (h' := ⟨hp.objs, h.next + 3⟩) (B := 3) hpk)
  rw [show N + 36 + (l.length - k) + k + 20 = N + l.length + 56 from by omega] at g1
  simp only at g5 g6
  refine ⟨h', k, hk, hkx, ?all, ?keep⟩
  case all =>
    refine call_ret (vs := [.int .i64 k]) hi hf rfl rfl (f := f') ?run ?res
    case run =>
      apply x_seq
      · apply x_region
        apply r_val
        · exact (by omega : 2 < 21)
        · rw [op_box, show ev (initFr Go.Proofs.Tryz.f131.ntmps [.agg [ids, rows], .int .u64 x]) (.tmp 0) = some (.agg [ids, rows]) from rfl]
          simp only [EV.cells, List.all_cons, List.all_nil, ho.1, ho.2, Bool.and_self, T.s154, List.length_cons, List.length_nil, Nat.zero_add, Nat.reduceAdd, decide_true, cond] <;> rfl
        apply r_val
        · exact (by omega : 4 < 21)
        · simp only [op_assign, ev_const, conv_int, Option.map_some] <;> rfl
        exact r_nil
      apply x_seq_ret
      apply x_seq
      · apply x_region
        apply r_val
        · exact (by omega : 5 < 21)
        · simp only [op_assign, ev_const, conv_int, Option.map_some] <;> rfl
        exact r_nil
      · apply x_block_ret
        exact g1
    case res => exact res_one g3
  case keep =>
    exact ⟨fun m o e => by show Go.Eng.T.get h'.objs m = _; rw [g4]; exact hpo m o e, by omega, by omega, fun m o e => by
      have e' : Go.Eng.T.get h'.objs m = some o := e
      rw [g4] at e'
      exact (hpb m o e').imp id fun h1 => ⟨by omega, by omega⟩⟩
end Go.Eng

namespace Go.Eng
open Go

/-! Put where the id is there with the same bytes. -/
def thenOf : Code → Code | .cond _ a _ => a | c => c
noncomputable def pOps : Array Oper := opsOf (Code.at [false] (thenOf (Code.at [true, true, true, false, true] (bodyOf Go.Proofs.Tryz.f58))))
theorem pOps_size : pOps.size = 14 := by kernel_rfl
theorem pb0 : Nat.testBit ((Region.before pOps).toList.getD 11 0) 0 = true := by kernel_rfl
theorem pOps_names : namesOk (Region.before pOps).toList pOps pOps.toList pOps.toList 0 = true := by kernel_rfl

theorem eqb_str {a : List Nat} : EV.eqb (.str a) (.str a) = true := by unfold EV.eqb; rw [strEq_eq]; simp
theorem eqb_slice {n o l e : Nat} {c : Option Nat} : EV.eqb (.slice n o l c e) (.slice n o l c e) = true := by unfold EV.eqb; simp

theorem readFrom_list {c : T EV} : ∀ {l : List EV} {off : Nat}, (∀ j (hj : j < l.length), c.get (off + j) = some l[j]) → readFrom c off l.length = some l := by
  intro l
  induction l with
  | nil => intro off _; rfl
  | cons a l ih =>
    intro off h
    have h0 := h 0 (by simp)
    have hr := ih (off := off + 1) fun j hj => by
      have := h (j + 1) (by simp; omega)
      rwa [show off + (j + 1) = off + 1 + j from by omega] at this
    show (match c.get off with | some e => (match readFrom c (Nat.add off 1) l.length with | some es => some (e :: es) | none => none) | none => none) = _
    rw [show c.get off = some a from h0]
    simp only
    rw [show Nat.add off 1 = off + 1 from rfl, hr]

theorem bytesE_list : ∀ {l : List Nat}, (∀ b ∈ l, b < 256) → bytesE (l.map fun (b : Nat) => EV.int .u8 ((b : Nat) : Int)) = some l := by
  intro l
  induction l with
  | nil => intro _; rfl
  | cons a l ih =>
    intro h
    have ha : a < 256 := h a (by simp)
    simp only [List.map_cons, bytesE, ih fun b hb => h b (by simp [hb])]
    rw [show Nat.mod ((a : Int).toNat) 256 = a from by rw [Int.toNat_natCast]; exact Nat.mod_eq_of_lt ha]

/-- A row of bytes as a text. -/
theorem conv_text {tb : Tab} (T2 : MT tb) (T9 : tb.und 9 = some .string) {h : EH} {nm : Nat} {x : EV} {bs : List Nat} (hb : BytesAt h x bs) : convertE tb h nm 63 9 x = some (.str bs, h) := by
  obtain ⟨hlt, b, off, cap, rfl, hc⟩ := hb
  unfold convertE
  rw [T2.u58, T9]
  simp only [T2.u5]
  by_cases hz : bs.length = 0
  · rw [if_pos hz]
    rw [List.length_eq_zero_iff.1 hz]
  · rw [if_neg hz]
    have h0 := hc 0 (by omega)
    unfold EH.cell at h0
    unfold EH.read
    cases hg : h.get b with
    | none => rw [hg] at h0; cases h0
    | some o =>
      rw [hg] at h0
      cases o <;> first | (cases h0; done) | skip
      rename_i c e vr
      have hrd : readFrom c off bs.length = some (bs.map fun (b : Nat) => EV.int .u8 ((b : Nat) : Int)) := by
        have := readFrom_list (c := c) (l := bs.map fun (b : Nat) => EV.int .u8 ((b : Nat) : Int)) (off := off) fun j hj => by
          have hj' : j < bs.length := by simpa using hj
          have hcj := hc j hj'
          unfold EH.cell at hcj
          rw [hg] at hcj
          simpa using hcj
        rwa [List.length_map] at this
      simp only [hrd, bytesE_list hlt]

theorem bin_text {tb : Tab} {t : TypeId} {a : List Nat} : binE tb .eql t (.str a) (.str a) = some (.bool true) := by simp [binE, binStr, strEq_eq]
theorem guard_text {x y : Operand} {a b : List Nat} : guardE x y (.str a) (.str b) = true := rfl

theorem steady1 {tb : Tab} {bef : List Nat} {o : Oper} {i : Nat} {f : Fr} {v : EV} {g0 g g' : EH} (ho : opE tb g 0 f o = some (.val v g')) (he : EV.eqb v v = true) : (List.range 2).all (steadyAt tb bef o i f v 0 [11] [g0, g]) = true := by
  have h0 : steadyAt tb bef o i f v 0 [11] [g0, g] 0 = true := by unfold steadyAt; simp
  have h1 : steadyAt tb bef o i f v 0 [11] [g0, g] 1 = true := by unfold steadyAt; simp [ho, he]
  show ([0, 1] : List Nat).all _ = true
  simp only [List.all_cons, List.all_nil, h0, h1, Bool.and_self]
theorem steady0 {tb : Tab} {bef : List Nat} {o : Oper} {i : Nat} {f : Fr} {v : EV} {g0 g : EH} (hb : Nat.testBit (bef.getD 11 0) i = true) : (List.range 2).all (steadyAt tb bef o i f v 0 [11] [g0, g]) = true := by
  have h0 : steadyAt tb bef o i f v 0 [11] [g0, g] 0 = true := by unfold steadyAt; simp
  have h1 : steadyAt tb bef o i f v 0 [11] [g0, g] 1 = true := by unfold steadyAt waitedBy; simp only [List.take_succ_cons, List.take_zero, List.any_cons, hb, Bool.true_or, Bool.or_true]
  show ([0, 1] : List Nat).all _ = true
  simp only [List.all_cons, List.all_nil, h0, h1, Bool.and_self]

theorem d_store0 {tb : Tab} {ex : Ex} {ops : Array Oper} {bef : List Nat} {base i : Nat} {f : Fr} {h h' : EH} {gs : List EH} {rds : List (Nat × Oper × Fr × EV × Nat)} {als : List (Nat × Nat)} {ty : TypeId} {pos : String} {af : Array Edge} {X : Option Dr} {op : Op} {l : List Oper} (hk : kindOf tb op = .effect) (p : opE tb h (base + i) f ⟨none, op, ty, pos, af, none⟩ = some (.skip h'))
    (q : drawAll tb ex ops bef base l (i + 1) ⟨f, h', [i], h' :: gs, rds, als⟩ = X) :
    drawAll tb ex ops bef base (⟨none, op, ty, pos, af, none⟩ :: l) i ⟨f, h, [], gs, rds, als⟩ = X := by
  unfold drawAll drawOne
  simp only [wantedE, p, hk, orWith_skip, setDst_skip]
  exact q

/-- What the readers of the region look at. -/
structure Hit (h : EH) (p rb ro k rn : Nat) (cap : Option Nat) (v xv : EV) (bs : List Nat) : Prop where
  c1 : h.cell p 1 = some (.slice rb ro rn cap 1)
  cv : h.cell rb (ro + k) = some v
  bv : BytesAt h v bs
  bx : BytesAt h xv bs
theorem Hit.mono {h h' : EH} {p rb ro k rn : Nat} {cap : Option Nat} {v xv : EV} {bs : List Nat} (a : Hit h p rb ro k rn cap v xv bs) (ho : ∀ m o, h.get m = some o → h'.get m = some o) : Hit h' p rb ro k rn cap v xv bs :=
  ⟨cell_old (ho p) a.c1, cell_old (ho rb) a.cv, a.bv.mono ho, a.bx.mono ho⟩

theorem pr4 {tb : Tab} (T : MW tb) (T9 : tb.und 9 = some .string) (N : Nat) {p q k rb ro rn x : Nat} {cap : Option Nat} {ids v xv : EV} {bs : List Nat} {cq : Go.Eng.T EV} {f : Fr} {h h0 : EH} (hn : f.n = 73) (h2 : f.get 2 = some (.ptr p 0)) (h7 : f.get 7 = some (.int .u64 x)) (h8 : f.get 8 = some (.int .i64 k)) (h1 : f.get 1 = some xv) (h4 : f.get 4 = some (.ptr q 0))
    (c0 : h.cell p 0 = some ids) (hi : ids.one = true) (H : Hit h0 p rb ro k rn cap v xv bs) (hk : k < rn) (ho : ∀ m o, h0.get m = some o → h.get m = some o) (hq : ∀ o, h0.get q ≠ some o) (gq : h.get q = some (.cells cq 168 true)) (hr : (readFrom cq 0 2).isSome = true) (hlow : Low h) (hcap : h.next < 10000000000) :
    ∃ f1 hh, exec tb (N + 1) false (.region 4 pOps true) f h = .normal f1 hh ∧ f1.n = 73 ∧ f1.get 4 = some (.ptr q 0) ∧ f1.get 5 = some (.int .u64 x) ∧ f1.get 6 = some (.bool true) ∧
      hh = EH.set ⟨h.objs, h.next + 14⟩ q (.cells (writeFrom cq 0 [ids, .slice rb ro rn cap 1]) 168 true) := by
  have hqn := hlow _ _ gq
  let hs : EH := EH.set ⟨h.objs, h.next + 14⟩ q (.cells (writeFrom cq 0 [ids, .slice rb ro rn cap 1]) 168 true)
  have hos : ∀ m o, h0.get m = some o → hs.get m = some o := fun m o e => by
    have hm : m ≠ q := fun z => by subst z; exact hq o e
    exact (oget_other (by omega) hm).trans (ho m o e)
  have H1 : Hit ⟨h.objs, h.next + 14⟩ p rb ro k rn cap v xv bs := H.mono ho
  have H2 : Hit hs p rb ro k rn cap v xv bs := H.mono hos
  have kd : kindOf tb (.convert 63 9 (.tmp 25)) = .reader := by
    show convKind tb 63 9 = _
    unfold convKind
    rw [T.u58, T9]
  have kd2 : kindOf tb (.convert 63 9 (.tmp 27)) = .reader := kd
  have hd : ∃ d, drawAll tb (exec tb N) pOps (Region.before pOps).toList h.next pOps.toList 0 ⟨f, ⟨h.objs, h.next + pOps.size⟩, [], [⟨h.objs, h.next + pOps.size⟩], [], []⟩ = some d ∧
      d.h = hs ∧ d.f.n = 73 ∧ d.f.get 4 = some (.ptr q 0) ∧ d.f.get 5 = some (.int .u64 x) ∧ d.f.get 6 = some (.bool true) ∧
      (d.als.all (fun (i, m) => (d.effs.reverse.drop m).all fun e => Nat.testBit ((Region.before pOps).toList.getD e 0) i) && d.rds.all (fun (i, o, f, v, m) => (List.range (d.effs.reverse.length + 1)).all (steadyAt tb (Region.before pOps).toList o i f v m d.effs.reverse d.gs.reverse))) = true := by
    rw [pOps_size]
    refine ⟨?d, ?run, ?rest⟩
    case run =>
      apply d_read
      · simp only [hn, Nat.reduceLT]
      · rfl
      · rw [op_load]
        simp only [ev_tmp, h2]
        rw [show loadE tb ⟨h.objs, h.next + 14⟩ 168 p 0 = some (.agg [ids, .slice rb ro rn cap 1]) from load_agg2 T c0 H1.c1]
        rfl
      apply d_pure
      · simp only [Fr.wth_n, hn, Nat.reduceLT]
      · rfl
      · simp only [op_move, ev_tmp, h7, Fr.get_wth_other, Nat.reduceLT, Nat.reduceEqDiff, ne_eq, not_false_eq_true, Option.map_some] <;> rfl
      apply d_pure
      · simp only [Fr.wth_n, hn, Nat.reduceLT]
      · rfl
      · apply fa1 T.toMU
        simp only [ev_tmp, h2, Fr.get_wth_other, Nat.reduceLT, Nat.reduceEqDiff, ne_eq, not_false_eq_true] <;> rfl
      apply d_read
      · simp only [Fr.wth_n, hn, Nat.reduceLT]
      · rfl
      · simp only [op_load, ev_tmp, Fr.get_wth_same, Nat.reduceLT, load_one T.u44 (by rfl), H1.c1, Option.map_some] <;> rfl
      apply d_pure
      · simp only [Fr.wth_n, hn, Nat.reduceLT]
      · rfl
      · simp only [op_move, ev_tmp, h8, Fr.get_wth_other, Nat.reduceLT, Nat.reduceEqDiff, ne_eq, not_false_eq_true, Option.map_some] <;> rfl
      apply d_pure
      · simp only [Fr.wth_n, hn, Nat.reduceLT]
      · rfl
      · simp only [op_indexAddr, ev_tmp, Fr.get_wth_same, Fr.get_wth_other, Nat.reduceLT, Nat.reduceEqDiff, ne_eq, not_false_eq_true, T.u44, T.s58, Int.ofNat_lt, hk, Int.natCast_nonneg, and_self, if_true, Int.toNat_natCast, Nat.mul_one] <;> rfl
      apply d_read
      · simp only [Fr.wth_n, hn, Nat.reduceLT]
      · rfl
      · simp only [op_load, ev_tmp, Fr.get_wth_same, Nat.reduceLT, load_one T.u58 (by rfl), H1.cv, Option.map_some] <;> rfl
      apply d_read
      · simp only [Fr.wth_n, hn, Nat.reduceLT]
      · exact kd
      · simp only [op_convert, ev_tmp, Fr.get_wth_same, Nat.reduceLT, conv_text T.toMT T9 H1.bv] <;> rfl
      apply d_pure
      · simp only [Fr.wth_n, hn, Nat.reduceLT]
      · rfl
      · simp only [op_move, ev_tmp, h1, Fr.get_wth_other, Nat.reduceLT, Nat.reduceEqDiff, ne_eq, not_false_eq_true, Option.map_some] <;> rfl
      apply d_read
      · simp only [Fr.wth_n, hn, Nat.reduceLT]
      · exact kd2
      · simp only [op_convert, ev_tmp, Fr.get_wth_same, Nat.reduceLT, conv_text T.toMT T9 H1.bx] <;> rfl
      apply d_pure
      · simp only [Fr.wth_n, hn, Nat.reduceLT]
      · rfl
      · simp only [op_binOp, ev_tmp, Fr.get_wth_same, Fr.get_wth_other, Nat.reduceLT, Nat.reduceEqDiff, ne_eq, not_false_eq_true, Option.map_some, bin_text, guard_text, cond] <;> rfl
      apply d_store0
      · rfl
      · exact op_store_agg (q := q) (l := [ids, .slice rb ro rn cap 1]) (by simp only [ev_tmp, h4, Fr.get_wth_other, Nat.reduceLT, Nat.reduceEqDiff, ne_eq, not_false_eq_true]) (by simp only [ev_tmp, Fr.get_wth_same, Fr.get_wth_other, Nat.reduceLT, Nat.reduceEqDiff, ne_eq, not_false_eq_true]) T.s154 gq (by rw [List.all_cons, List.all_cons, List.all_nil, hi]; rfl) hr
      iterate 2 (apply d_pure; (· simp only [Fr.wth_n, hn, Nat.reduceLT]); (· rfl); (· simp only [op_assign, ev_tmp, Fr.get_wth_same, Fr.get_wth_other, Nat.reduceLT, Nat.reduceEqDiff, ne_eq, not_false_eq_true, Option.map_some] <;> rfl))
      exact d_nil
    case rest =>
      refine ⟨rfl, by simp only [Fr.wth_n, hn], ?_, ?_, Fr.get_wth_same (by omega), ?_⟩
      · simp only [h4, Fr.get_wth_other, Nat.reduceLT, Nat.reduceEqDiff, ne_eq, not_false_eq_true]
      · simp only [Fr.get_wth_same, Fr.get_wth_other, Nat.reduceLT, Nat.reduceEqDiff, ne_eq, not_false_eq_true]
      · simp only [List.all_nil, List.all_cons, List.reverse_cons, List.reverse_nil, List.nil_append, List.singleton_append, List.cons_append, List.length_cons, List.length_nil, Nat.zero_add, Nat.reduceAdd, Bool.true_and, Bool.and_true, Bool.and_eq_true]
        refine ⟨?_, ?_, ?_, ?_, ?_⟩
        · apply steady1 (g' := hs) _ eqb_str
          simp only [op_convert, ev_tmp, Fr.get_wth_same, Nat.reduceLT]
          rw [conv_text T.toMT T9 H2.bx]
        · apply steady1 (g' := hs) _ eqb_str
          simp only [op_convert, ev_tmp, Fr.get_wth_same, Nat.reduceLT]
          rw [conv_text T.toMT T9 H2.bv]
        · obtain ⟨vb, vo, vc, ve, _⟩ := H.bv.at'
          refine steady1 (g' := hs) ?_ (by rw [ve]; exact eqb_slice)
          simp only [op_load, ev_tmp, Fr.get_wth_same, Nat.reduceLT, load_one T.u58 (by rfl)]
          rw [H2.cv]
          rfl
        · apply steady1 (g' := hs) _ eqb_slice
          simp only [op_load, ev_tmp, Fr.get_wth_same, Nat.reduceLT, load_one T.u44 (by rfl)]
          rw [H2.c1]
          rfl
        · exact steady0 pb0
  obtain ⟨d, d1, d2, d3, d4, d5, d6, d7⟩ := hd
  exact ⟨d.f, d.h, x_draw pOps_names (by rw [pOps_size]; omega) d1 d7, d3, d4, d5, d6, d2⟩
end Go.Eng

namespace Go.Eng
open Go

theorem pr2h {tb : Tab} (T : MW tb) {ids rows : EV} {l : List Nat} {x p : Nat} (N : Nat) {f : Fr} {h : EH} (hn : f.n = 73) (h2 : f.get 2 = some (.ptr p 0)) (h7 : f.get 7 = some (.int .u64 x)) (c0 : h.cell p 0 = some ids) (c1 : h.cell p 1 = some rows)
    (hlow : Low h) (hcap : h.next < 10000000000) (hl : ListAt h ids (l.map fun y => .int .u64 ((y : Nat) : Int))) (ho : rows.one = true) (hx : x ∈ l) (hlen : l.length < 1000000000) :
    ∃ f1 hh k, ∃ hk : k < l.length, l[k] = x ∧ exec tb (N + l.length + 61) false (Code.at [true, true, false] (bodyOf Go.Proofs.Tryz.f58)) f h = .normal f1 hh ∧ f1.n = 73 ∧ f1.get 8 = some (.int .i64 k) ∧ (∀ t, t ≠ 8 → t < 14 → f1.get t = f.get t) ∧ Keep h hh (15 * l.length + 30) := by
  have ku : Keep h ⟨h.objs, h.next + 1 + 1 + 1⟩ 3 := Keep.up (by omega) (by omega)
  obtain ⟨h3, k, hk, hkx, q1, k1⟩ := find_hit T.toMU T.i111 T.f111 N (h := ⟨h.objs, h.next + 1 + 1 + 1⟩) (rows := rows) (x := x) (hlow.up (by omega)) (by simp only; omega) (hl.keep ku) ⟨hl.one, ho⟩ hx hlen
  refine ⟨?f1, ?hh, k, hk, hkx, ?run, ?n, ?g8, ?gt, ?keep⟩
  case run =>
    apply x_region
    apply r_val
    · simp only [hn, Nat.reduceLT]
    · rw [op_load]
      simp only [ev_tmp, h2]
      rw [show loadE tb ⟨h.objs, h.next + 1⟩ 168 p 0 = some (.agg [ids, rows]) from load_agg2 T c0 c1]
      rfl
    apply r_val
    · simp only [Fr.wth_n, hn, Nat.reduceLT]
    · simp only [op_move, ev_tmp, h7, Fr.get_wth_other, Nat.reduceLT, Nat.reduceEqDiff, ne_eq, not_false_eq_true, Option.map_some] <;> rfl
    apply r_call
    · simp only [Fr.wth_n, hn, Nat.reduceLT]
    · simp only [op_call, evs_cons, evs_nil, ev_tmp, Fr.get_wth_same, Fr.get_wth_other, Nat.reduceLT, Nat.reduceEqDiff, ne_eq, not_false_eq_true] <;> rfl
    · exact q1
    apply r_val
    · simp only [Fr.wth_n, hn, Nat.reduceLT]
    · simp only [op_assign, ev_tmp, Fr.get_wth_same, Nat.reduceLT, Option.map_some] <;> rfl
    exact r_nil
  case n => simp only [Fr.wth_n, hn]
  case g8 => exact Fr.get_wth_same (by omega)
  case gt =>
    intro t a b
    iterate 4 (rw [Fr.get_wth_other (by omega) (by omega)])
  case keep => exact ku.trans (k1.trans (Keep.up (B := 1) (by omega) (by omega)) (Nat.le_refl _)) (by omega)

/-- Put where the id is there, with the same bytes: the store as it was, and true. -/
theorem put_hit {tb : Tab} (T : MW tb) (T9 : tb.und 9 = some .string) (N : Nat) {h : EH} {ids rows x : EV} {ws : List EV} {l bs : List Nat} (hlow : Low h) (hcap : h.next + 50 * bs.length + 100 * l.length + 2000 < 1000000000)
    (li : ListAt h ids (l.map fun y => .int .u64 ((y : Nat) : Int))) (lr : ListAt h rows ws) (hlen : ws.length = l.length) (hx : BytesAt h x bs) (hz : idOf bs ≠ 0) (hmem : idOf bs ∈ l)
    (hsame : ∀ k (hk : k < l.length) (hk2 : k < ws.length), l[k] = idOf bs → BytesAt h ws[k] bs) :
    ∃ h', callWith tb (exec tb (N + bs.length + l.length + 100)) 58 [.agg [ids, rows], x] h = some (.tuple [.agg [ids, rows], .int .u64 (idOf bs), .bool true], h') ∧ Keep h h' (50 * bs.length + 100 * l.length + 500) := by
  obtain ⟨f0, h0, r0, n0, a1, a2, a4, k0, nx0, cp, cq⟩ := pr0 T li.one lr.one (N + bs.length + l.length + 89) hlow (by omega : h.next < 10000000000) (x := x)
  have low0 := k0.low hlow
  obtain ⟨f1, h1, r1, n1, b7, bt, k1⟩ := pr1 T (N + l.length + 37) n0 a1 (hx.keep k0) (by omega) hz
  have low1 := k1.low low0
  have cp0 : h1.cell h.next 0 = some ids := cell_of (k1.old _ _ cp) rfl
  have cp1 : h1.cell h.next 1 = some rows := cell_of (k1.old _ _ cp) rfl
  have k01 := k0.trans k1 (Nat.le_refl _)
  have kh1 := k1.hi
  obtain ⟨f2, h2, k, hk, hkx, r2, n2, c8, ct, k2⟩ := pr2h T (N + bs.length + 36) n1 ((bt 2 (by omega) (by omega)).trans a2) b7 cp0 cp1 low1 (by omega) (li.keep k01) lr.one hmem (by omega)
  have low2 := k2.low low1
  have kh2 := k2.hi
  have k02 := k01.trans k2 (Nat.le_refl _)
  obtain ⟨rb, ro, cap, re, hrc⟩ := lr.inv (i := k) (by omega)
  subst re
  let hA : EH := ⟨Go.Eng.T.set deep h.objs h.next (.cells (rowOf [ids, .slice rb ro ws.length cap 1]) 168 true), h.next + 1⟩
  have kA : Keep h hA (h.next + 1 - h.next) := keep_new hlow (by omega) (Nat.le_refl _)
  have gA : hA.get h.next = some (.cells (rowOf [ids, .slice rb ro ws.length cap 1]) 168 true) := oget_same (by omega)
  have hAo : ∀ m o, hA.get m = some o → h2.get m = some o := fun m o e => by
    rcases Go.Eng.T.get_set _ _ _ _ _ _ e with ⟨z, zo⟩ | ⟨_, e⟩
    · subst z; subst zo; exact k2.old _ _ (k1.old _ _ cp)
    · exact k02.old _ _ e
  have hAq : ∀ o, hA.get (h.next + 1) ≠ some o := fun o e => by
    rcases Go.Eng.T.get_set _ _ _ _ _ _ e with ⟨z, _⟩ | ⟨_, e⟩
    · omega
    · have := hlow _ _ e; omega
  have H : Hit hA h.next rb ro k ws.length cap (ws[k]'(by omega)) x bs := {
    c1 := cell_of gA rfl
    cv := kA.cell (hrc k (by omega))
    bv := (hsame k hk (by omega) hkx).keep kA
    bx := hx.keep kA }
  have gq2 : h2.get (h.next + 1) = some (.cells (rowOf [.nilSlice, .nilSlice]) 168 true) := k2.old _ _ (k1.old _ _ cq)
  have g2 : ∀ t, t ≠ 7 → t ≠ 8 → t < 12 → f2.get t = f0.get t := fun t u1 u2 u3 => (ct t u2 (by omega)).trans (bt t u1 u3)
  let f3 : Fr := (f2.wth 17 (.int .i64 k)).wth 18 (.bool true)
  have g3 : ∀ t, t < 17 → f3.get t = f2.get t := fun t ht => by
    simp only [f3]
    iterate 2 (rw [Fr.get_wth_other (by omega) (by omega)])
  obtain ⟨f4, h4, r4, n4, d4, d5, d6, eh⟩ := pr4 T T9 (N + bs.length + l.length + 92) (p := h.next) (q := h.next + 1) (k := k) (f := f3) (h := ⟨h2.objs, h2.next + 2⟩) (x := idOf bs) (by simp only [f3, Fr.wth_n, n2])
    ((g3 2 (by omega)).trans ((g2 2 (by omega) (by omega) (by omega)).trans a2)) ((g3 7 (by omega)).trans ((ct 7 (by omega) (by omega)).trans b7)) ((g3 8 (by omega)).trans c8) ((g3 1 (by omega)).trans ((g2 1 (by omega) (by omega) (by omega)).trans a1)) ((g3 4 (by omega)).trans ((g2 4 (by omega) (by omega) (by omega)).trans a4))
    (k2.cell cp0) li.one H (by omega) hAo hAq gq2 rfl (low2.up (by omega)) (by simp only; omega)
  have hq4 : h4.get (h.next + 1) = some (.cells (writeFrom (rowOf [.nilSlice, .nilSlice]) 0 [ids, .slice rb ro ws.length cap 1]) 168 true) := by
    rw [eh]
    exact oget_same (by omega)
  have nx4 : h4.next = h2.next + 16 := by rw [eh]; rfl
  have k02h := k02.hi
  have k02l := k02.lo
  refine ⟨h4, ?run, ?keep⟩
  case run =>
    refine call_ret (vs := [.agg [ids, .slice rb ro ws.length cap 1], .int .u64 ((idOf bs : Nat) : Int), .bool true]) T.i47 T.f47 rfl rfl (f := f4) ?run ?res
    case run =>
      apply x_seq
      · exact r0
      apply x_seq
      · rw [show N + l.length + 37 + bs.length + 61 = N + bs.length + l.length + 98 from by omega] at r1
        exact r1
      apply x_seq
      · rw [show N + bs.length + 36 + l.length + 61 = N + bs.length + l.length + 97 from by omega] at r2
        exact r2
      apply x_seq_ret
      apply x_seq
      · apply x_region
        apply r_val
        · simp only [n2, Nat.reduceLT]
        · simp only [op_move, ev_tmp, c8, Option.map_some] <;> rfl
        apply r_val
        · simp only [Fr.wth_n, n2, Nat.reduceLT]
        · simp only [op_binOp, ev_tmp, ev_const, conv_int, Fr.get_wth_same, Nat.reduceLT, bin_geq, guard_int, cond, Option.map_some, show decide ((0 : Int) ≤ (k : Int)) = true from by simp] <;> rfl
        exact r_nil
      · apply x_cond_t
        · simp only [ev_tmp, Fr.get_wth_same, Nat.reduceLT]
        · apply x_seq
          · exact r4
          · exact exec_ret
    case res =>
      show resE tb f4 h4 [.cell 4 168, .tmp 5, .tmp 6] = _
      have hld : loadE tb h4 168 (h.next + 1) 0 = some (.agg [ids, .slice rb ro ws.length cap 1]) := load_agg2 T (cell_of hq4 wf0) (cell_of hq4 wf1)
      simp only [resE, d4, d5, d6, hld]
  case keep =>
    exact {
      old := fun m o e => by
        have hm : m ≠ h.next + 1 := by have := hlow m o e; omega
        rw [eh]
        exact (oget_other (by omega) hm).trans (k02.old m o e)
      lo := by omega
      hi := by omega
      back := fun m o e => by
        rw [eh] at e
        rcases Go.Eng.T.get_set _ _ _ _ _ _ e with ⟨z, _⟩ | ⟨_, e⟩
        · exact .inr ⟨by omega, by omega⟩
        · rcases k02.back m o e with z | ⟨z1, z2⟩
          · exact .inl z
          · exact .inr ⟨z1, by omega⟩ }
end Go.Eng

namespace Go.Eng
open Go

theorem mr5g {tb : Tab} (T : MW tb) (N : Nat) {s rb ro n i B K : Nat} {cap : Option Nat} {ids rows xv ids' rows' : EV} {f : Fr} {h h' : EH} (hn : f.n = 28) (h0 : f.get 0 = some (.slice rb ro n cap 1)) (h3 : f.get 3 = some (.ptr s 0)) (h4 : f.get 4 = some (.int .i64 i)) (hi : i < n)
    (hc : h.cell rb (ro + i) = some xv) (c0 : h.cell s 0 = some ids) (c1 : h.cell s 1 = some rows) (hlow : Low h) (hcap : h.next + B + 2000 < 1000000000)
    (pc : callWith tb (exec tb (N + 100)) 58 [.agg [ids, rows], xv] ⟨h.objs, h.next + 14⟩ = some (.tuple [.agg [ids', rows'], .int .u64 ((K : Nat) : Int), .bool true], h')) (pk : Keep ⟨h.objs, h.next + 14⟩ h' B) (i1 : ids'.one = true) (i2 : rows'.one = true) :
    ∃ f1 hh q, exec tb (N + 101) false (.region 5 mOps true) f h = .normal f1 hh ∧ f1.n = 28 ∧ f1.get 7 = some (.bool true) ∧ f1.get 5 = some (.ptr q 0) ∧ (∀ t, t < 5 → f1.get t = f.get t) ∧
      Keep h hh (B + 100) ∧ hh.cell q 0 = some ids' ∧ hh.cell q 1 = some rows' ∧ ∀ m o, h'.get m = some o → hh.get m = some o := by
  have ku : Keep h ⟨h.objs, h.next + 14⟩ 14 := Keep.up (by omega) (by omega)
  have hcell : ∀ k, EH.cell ⟨h.objs, k⟩ rb (ro + i) = some xv := fun k => hc
  have fresh : ∀ m o, h'.get m = some o → m ≠ h.next + 10 := fun m o e => by
    rcases pk.back m o e with ⟨o', e'⟩ | ⟨z1, z2⟩
    · have := hlow m o' e'; omega
    · simp only at z1; omega
  have plo : h.next + 14 ≤ h'.next := pk.lo
  have phi : h'.next ≤ h.next + 14 + B := pk.hi
  have plow := pk.low (hlow.up (by omega))
  let hs : EH := EH.set (EH.set h' (h.next + 10) (.cells (rowOf [.nilSlice, .nilSlice]) 168 true)) (h.next + 10) (.cells (writeFrom (rowOf [.nilSlice, .nilSlice]) 0 [ids', rows']) 168 true)
  have hsn : hs.next = h'.next := rfl
  have hsg : hs.get (h.next + 10) = some (.cells (writeFrom (rowOf [.nilSlice, .nilSlice]) 0 [ids', rows']) 168 true) := oget_same (by omega)
  have hold : ∀ m o, h'.get m = some o → hs.get m = some o := fun m o e => (oget_other (by omega) (fresh m o e)).trans ((oget_other (by omega) (fresh m o e)).trans e)
  have hk : Keep h hs (B + 100) := {
    old := fun m o e => hold m o (pk.old m o e)
    lo := by rw [hsn]; omega
    hi := Nat.le_trans (Nat.le_of_eq hsn) (Nat.le_trans phi (by clear hsg hsn fresh pk; omega))
    back := fun m o e => by
      have hm : m = h.next + 10 → h.next ≤ m ∧ m < h'.next := fun z => ⟨by omega, by omega⟩
      rcases Go.Eng.T.get_set _ _ _ _ _ _ e with ⟨z, _⟩ | ⟨_, e⟩
      · exact .inr (hm z)
      rcases Go.Eng.T.get_set _ _ _ _ _ _ e with ⟨z, _⟩ | ⟨_, e⟩
      · exact .inr (hm z)
      rcases pk.back m o e with z | ⟨z1, z2⟩
      · exact .inl z
      · exact .inr ⟨by simp only at z1; omega, by rw [hsn]; exact z2⟩ }
  have hd : ∃ d, drawAll tb (exec tb (N + 100)) mOps (Region.before mOps).toList h.next mOps.toList 0 ⟨f, ⟨h.objs, h.next + mOps.size⟩, [], [⟨h.objs, h.next + mOps.size⟩], [], []⟩ = some d ∧
      d.h = hs ∧ d.effs = [11, 5] ∧ d.als = [(10, 1)] ∧ (∃ o1 f1 v1 o2 f2 v2, d.rds = [(4, o1, f1, v1, 0), (0, o2, f2, v2, 0)]) ∧ d.f.n = 28 ∧ d.f.get 7 = some (.bool true) ∧ d.f.get 5 = some (.ptr (h.next + 10) 0) ∧ ∀ t, t < 5 → d.f.get t = f.get t := by
    rw [mOps_size]
    refine ⟨?d, ?run, ?rest⟩
    case run =>
      apply d_read
      · simp only [hn, Nat.reduceLT]
      · rfl
      · rw [op_load]
        simp only [ev_tmp, h3]
        rw [show loadE tb ⟨h.objs, h.next + 14⟩ 168 s 0 = some (.agg [ids, rows]) from load_agg2 T c0 c1]
        rfl
      iterate 2 (apply d_pure; (· simp only [Fr.wth_n, hn, Nat.reduceLT]); (· rfl); (· simp only [op_move, ev_tmp, h0, h4, Fr.get_wth_other, Nat.reduceLT, Nat.reduceEqDiff, ne_eq, not_false_eq_true, Option.map_some] <;> rfl))
      apply d_pure
      · simp only [Fr.wth_n, hn, Nat.reduceLT]
      · rfl
      · simp only [op_indexAddr, ev_tmp, Fr.get_wth_same, Fr.get_wth_other, Nat.reduceLT, Nat.reduceEqDiff, ne_eq, not_false_eq_true, T.u44, T.s58, Int.ofNat_lt, hi, Int.natCast_nonneg, and_self, if_true, Int.toNat_natCast, Nat.mul_one] <;> rfl
      apply d_read
      · simp only [Fr.wth_n, hn, Nat.reduceLT]
      · rfl
      · simp only [op_load, ev_tmp, Fr.get_wth_same, Nat.reduceLT, load_one T.u58 (by rfl), hcell, Option.map_some] <;> rfl
      apply d_call
      · simp only [Fr.wth_n, hn, Nat.reduceLT]
      · rfl
      · simp only [op_call, evs_cons, evs_nil, ev_tmp, Fr.get_wth_same, Fr.get_wth_other, Nat.reduceLT, Nat.reduceEqDiff, ne_eq, not_false_eq_true] <;> rfl
      · exact pc
      apply d_pure
      · simp only [Fr.wth_n, hn, Nat.reduceLT]
      · rfl
      · simp only [op_move, ev_tmp, Fr.get_wth_same, Nat.reduceLT, Option.map_some] <;> rfl
      iterate 3 (apply d_pure; (· simp only [Fr.wth_n, hn, Nat.reduceLT]); (· rfl); (· simp only [op_extract, ev_tmp, Fr.get_wth_same, Fr.get_wth_other, Nat.reduceLT, Nat.reduceEqDiff, ne_eq, not_false_eq_true, List.getElem?_cons_zero, List.getElem?_cons_succ, Option.map_some] <;> rfl))
      apply d_alloc
      · simp only [Fr.wth_n, hn, Nat.reduceLT]
      · rfl
      · rw [op_alloc, T.z154]
        simp only [EV.cells, List.all_cons, List.all_nil, EV.one, Bool.and_self, T.s154, List.length_cons, List.length_nil, Nat.zero_add, Nat.reduceAdd, decide_true, cond] <;> rfl
      apply d_store
      · rfl
      · exact op_store_agg (q := h.next + 10) (l := [ids', rows']) (by simp only [ev_tmp, Fr.get_wth_same, Nat.reduceLT] <;> rfl) (by simp only [ev_tmp, Fr.get_wth_same, Fr.get_wth_other, Nat.reduceLT, Nat.reduceEqDiff, ne_eq, not_false_eq_true]) T.s154 (oget_same (by omega)) (by simp only [List.all_cons, List.all_nil, i1, i2, Bool.and_self]) rfl
      · exact mb1
      iterate 2 (apply d_pure; (· simp only [Fr.wth_n, hn, Nat.reduceLT]); (· rfl); (· simp only [op_assign, ev_tmp, Fr.get_wth_same, Fr.get_wth_other, Nat.reduceLT, Nat.reduceEqDiff, ne_eq, not_false_eq_true, Option.map_some] <;> rfl))
      exact d_nil
    case rest =>
      refine ⟨rfl, rfl, rfl, ⟨_, _, _, _, _, _, rfl⟩, by simp only [Fr.wth_n, hn], Fr.get_wth_same (by omega), ?_, ?_⟩
      · simp only [Fr.get_wth_same, Fr.get_wth_other, Nat.reduceLT, Nat.reduceEqDiff, ne_eq, not_false_eq_true] <;> rfl
      · intro t ht
        iterate 13 (rw [Fr.get_wth_other (by omega) (by omega)])
  obtain ⟨d, d1, d2, d3, d4, ⟨o1, g1, v1, o2, g2, v2, d5⟩, d6, d7, d8, d9⟩ := hd
  refine ⟨d.f, d.h, h.next + 10, x_draw mOps_names (by rw [mOps_size]; omega) d1 ?_, d6, d7, d8, d9, d2 ▸ hk, d2 ▸ cell_of hsg rfl, d2 ▸ cell_of hsg rfl, d2 ▸ hold⟩
  rw [d3, d4, d5]
  show ((([(10, 1)] : List (Nat × Nat)).all fun (i, m) => (([5, 11] : List Nat).drop m).all fun e => Nat.testBit ((Region.before mOps).toList.getD e 0) i) && (([(4, o1, g1, v1, 0), (0, o2, g2, v2, 0)] : List (Nat × Oper × Fr × EV × Nat)).all fun (i, o, f, v, m) => (List.range 3).all (steadyAt tb (Region.before mOps).toList o i f v m [5, 11] d.gs.reverse))) = true
  simp only [List.all_cons, List.all_nil, List.drop_succ_cons, List.drop_zero, mb2, steady_ok mb3, steady_ok mb4, Bool.and_self]
end Go.Eng

namespace Go.Eng
open Go

/-! Meets, where rows of one id are alike: false. -/
structure MAll2 (H : EH) (s : Nat) (x : EV) (arr : List EV) (bss : List (List Nat)) : Prop where
  xs : ListAt H x arr
  len : arr.length = bss.length
  big : arr.length ≤ 1000
  row : ∀ j (h1 : j < arr.length) (h2 : j < bss.length), BytesAt H arr[j] bss[j]
  rowl : ∀ bs ∈ bss, bs.length ≤ 1000
  nz : ∀ bs ∈ bss, idOf bs ≠ 0
  same : ∀ bs ∈ bss, ∀ cs ∈ bss, idOf bs = idOf cs → bs = cs
  nx : H.next ≤ 100000000
  sn : ∀ o, H.get s ≠ some o

/-- Not in this block. -/
def NotS (s : Nat) (v : EV) : Prop := v = .nilSlice ∨ ∃ a off n c, v = .slice a off n c 1 ∧ a ≠ s

structure Stored (H h : EH) (s : Nat) (bss : List (List Nat)) (i : Nat) (ids rows : EV) (D : List (List Nat)) (ws : List EV) : Prop where
  li : ListAt h ids (idVs D)
  lr : ListAt h rows ws
  len : ws.length = D.length
  le : D.length ≤ i
  row : ∀ j (h1 : j < ws.length) (h2 : j < D.length), BytesAt H ws[j] D[j]
  sub : ∀ bs ∈ D, bs ∈ bss
  n1 : NotS s ids
  n2 : NotS s rows

structure MInv2 (H : EH) (s : Nat) (x : EV) (arr : List EV) (bss : List (List Nat)) (i : Nat) (f : Fr) (h : EH) : Prop where
  old : ∀ m o, H.get m = some o → h.get m = some o
  low : Low h
  sl : s < h.next
  nx : h.next ≤ H.next + 200000 * i + 100
  n : f.n = 28
  t0 : f.get 0 = some x
  t3 : f.get 3 = some (.ptr s 0)
  t4 : f.get 4 = some (.int .i64 i)
  st : ∃ c ids rows D ws, h.get s = some (.cells c 168 true) ∧ c.get 0 = some ids ∧ c.get 1 = some rows ∧ Stored H h s bss i ids rows D ws

theorem ListAt.apart {h h' : EH} {s : Nat} {v : EV} {us : List EV} (a : ListAt h v us) (hn : NotS s v) (ho : ∀ m o, m ≠ s → h.get m = some o → h'.get m = some o) : ListAt h' v us := by
  cases a with
  | nil => exact .nil
  | slice b off cap _ hc =>
    rcases hn with e | ⟨aa, o2, nn, cc, e, hne⟩
    · cases e
    · cases e
      exact .slice _ _ _ _ fun j hj => cell_old (fun o e => ho _ o hne e) (hc j hj)

/-- Put, whether the id is there or not. -/
theorem put_any {tb : Tab} (T : MW tb) (T9 : tb.und 9 = some .string) (N : Nat) {H h : EH} {s i : Nat} {ids rows xv : EV} {bss D : List (List Nat)} {ws : List EV} {bs : List Nat} (hold : ∀ m o, H.get m = some o → h.get m = some o) (S : Stored H h s bss i ids rows D ws)
    (hlow : Low h) (hcap : h.next + 50 * bs.length + 100 * D.length + 2000 < 1000000000) (hx : BytesAt H xv bs) (hz : idOf bs ≠ 0) (hb : bs ∈ bss) (same : ∀ bs ∈ bss, ∀ cs ∈ bss, idOf bs = idOf cs → bs = cs) (hs : s < h.next) :
    ∃ h' ids' rows' D' ws', callWith tb (exec tb (N + bs.length + D.length + 100)) 58 [.agg [ids, rows], xv] h = some (.tuple [.agg [ids', rows'], .int .u64 (idOf bs), .bool true], h') ∧ Keep h h' (50 * bs.length + 100 * D.length + 500) ∧ Stored H h' s bss (i + 1) ids' rows' D' ws' := by
  have hdl : (D.map idOf).length = D.length := by simp
  have hlen := S.len
  have hle := S.le
  by_cases hm : idOf bs ∈ D.map idOf
  · obtain ⟨h', q1, q2⟩ := put_hit T T9 N (l := D.map idOf) (ws := ws) hlow (by rw [hdl]; exact hcap) S.li S.lr (by rw [hdl]; exact hlen) (hx.mono hold) hz hm (fun k hk hk2 e => by
      rw [List.getElem_map] at e
      have hkd : k < D.length := by rw [hdl] at hk; exact hk
      have hDk := List.getElem_mem hkd
      have := same _ (S.sub _ hDk) _ hb e
      rw [← this]
      exact (S.row k hk2 hkd).mono hold)
    rw [hdl] at q1 q2
    exact ⟨h', ids, rows, D, ws, q1, q2, { li := S.li.keep q2, lr := S.lr.keep q2, len := hlen, le := by omega, row := S.row, sub := S.sub, n1 := S.n1, n2 := S.n2 }⟩
  · have hws : ∀ v ∈ ws, v.one = true := by
      intro v hv
      obtain ⟨j, hj, rfl⟩ := List.getElem_of_mem hv
      obtain ⟨_, _, _, e, _⟩ := (S.row j hj (by omega)).at'
      rw [e]; rfl
    obtain ⟨h', ids', rows', q1, q2, li, lr, ⟨sa, sn, sc, se, sl⟩, ⟨ra, rn, rc, re, rl⟩⟩ := put_call T N (l := D.map idOf) (ws := ws) hlow (by rw [hdl]; omega) S.li S.lr (by rw [hdl]; exact hlen) hws (hx.mono hold) hz (fun y hy e => hm (e ▸ hy))
    rw [hdl] at q1 q2
    refine ⟨h', ids', rows', D ++ [bs], ws ++ [xv], q1, q2, { li := ?_, lr := lr, len := by simp [hlen], le := by simp; omega, row := ?_, sub := ?_, n1 := .inr ⟨sa, 0, sn, sc, se, by omega⟩, n2 := .inr ⟨ra, 0, rn, rc, re, by omega⟩ }⟩
    · rw [idVs, List.map_append]; exact li
    · intro j h1 h2
      by_cases hj : j < D.length
      · rw [List.getElem_append_left (by omega), List.getElem_append_left hj]
        exact S.row j (by omega) hj
      · have hjd : j = D.length := by simp at h2; omega
        subst hjd
        rw [List.getElem_append_right (by omega), List.getElem_append_right (by omega)]
        simpa [hlen] using hx
    · intro b hbm
      rcases List.mem_append.1 hbm with z | z
      · exact S.sub b z
      · rw [List.mem_singleton.1 z]; exact hb

theorem m_body2 {tb : Tab} (T : MW tb) (T9 : tb.und 9 = some .string) {H : EH} {s i : Nat} {x : EV} {arr : List EV} {bss : List (List Nat)} (A : MAll2 H s x arr bss) {f : Fr} {h : EH} (I : MInv2 H s x arr bss i f h) (hi : i < arr.length) (fu : Nat) (hfu : 3000 ≤ fu) :
    ∃ f' h', exec tb (fu + 20) false mB f h = .normal f' h' ∧ MInv2 H s x arr bss (i + 1) f' h' := by
  have hlen := A.len
  have hbig := A.big
  have hi2 : i < bss.length := by omega
  have hmem := List.getElem_mem hi2
  have hrl := A.rowl _ hmem
  have hHn := A.nx
  have hnx := I.nx
  have hsl := I.sl
  obtain ⟨f1, r1, n1, t1, k1⟩ := mr3 (bb := true) T (fu + 8) I.n I.t0 I.t4 (A.xs.mono I.old) (by simpa using hi)
  obtain ⟨rb, ro, cap, hx, hrc⟩ := A.xs.inv hi
  obtain ⟨c, ids, rows, D, ws, gs, gc0, gc1, S⟩ := I.st
  have hle := S.le
  have kup : Keep h ⟨h.objs, h.next + 4⟩ 4 := Keep.up (by omega) (by omega)
  have kup2 : Keep h ⟨h.objs, h.next + 4 + 14⟩ 18 := Keep.up (by omega) (by omega)
  obtain ⟨N, hN⟩ : ∃ N, fu + 16 = N + (bss[i]).length + D.length + 101 := ⟨fu - 85 - (bss[i]).length - D.length, by omega⟩
  obtain ⟨hp, ids', rows', D', ws', pc, pk, S'⟩ := put_any T T9 N (h := ⟨h.objs, h.next + 4 + 14⟩) (bs := bss[i]) (xv := arr[i]) I.old { S with li := S.li.keep kup2, lr := S.lr.keep kup2 } (I.low.up (by omega)) (by simp only; omega) (A.row i hi hi2) (A.nz _ hmem) hmem A.same (by simp only; omega)
  obtain ⟨f2, h2, q, r2, n2, t7, t5, k2, K2, q0, q1, hpo⟩ := mr5g T (N + (bss[i]).length + D.length) (h := ⟨h.objs, h.next + 4⟩) (xv := arr[i]) n1 ((k1 0 (by omega)).trans (I.t0.trans (by rw [hx]))) ((k1 3 (by omega)).trans I.t3) ((k1 4 (by omega)).trans I.t4) hi
    (cell_old (I.old rb) (hrc i hi)) (cell_of (h := ⟨h.objs, h.next + 4⟩) gs gc0) (cell_of (h := ⟨h.objs, h.next + 4⟩) gs gc1) (I.low.up (by omega)) (by simp only; omega) pc pk S'.li.one S'.lr.one
  rw [← hN] at r2
  have K2h := K2.hi
  have K2l := K2.lo
  simp only at K2h K2l
  obtain ⟨f3, r3, n3, k3⟩ := mr6 (tb := tb) (fu + 5) (h := h2) n2 t7
  have gs2 : h2.get s = some (.cells c 168 true) := K2.old s _ gs
  have hrd : (readFrom c 0 2).isSome = true := by simp only [readFrom, gc0, gc1]; rfl
  obtain ⟨f4, r4, n4, k4⟩ := mr8 T (fu + 5) (h := ⟨h2.objs, h2.next + 2⟩) n3 ((k3 5 (by omega)).trans t5) ((k3 3 (by omega)).trans ((k2 3 (by omega)).trans ((k1 3 (by omega)).trans I.t3))) q0 q1 S'.li.one S'.lr.one gs2 hrd
  let hS : EH := EH.set h2 s (.cells (writeFrom c 0 [ids', rows']) 168 true)
  have hSs : hS.get s = some (.cells (writeFrom c 0 [ids', rows']) 168 true) := oget_same (by omega)
  have hSo : ∀ m, m ≠ s → hS.get m = h2.get m := fun m hm => oget_other (by omega) hm
  obtain ⟨f5, r5, n5, t4, k5⟩ := mr4 (tb := tb) (i := i) (fu + 8) (f := f4) (h := ⟨hS.objs, h2.next + 2 + 2⟩) n4 ((k4 4 (by omega)).trans ((k3 4 (by omega)).trans ((k2 4 (by omega)).trans ((k1 4 (by omega)).trans I.t4)))) (by omega)
  have hpS : ∀ m o, m ≠ s → hp.get m = some o → EH.get ⟨hS.objs, h2.next + 2 + 2 + 3⟩ m = some o := fun m o hm e => (hSo m hm).trans (hpo m o e)
  refine ⟨f5, ⟨hS.objs, h2.next + 2 + 2 + 3⟩, ?run, ?inv⟩
  case run =>
    apply x_seq
    · apply x_seq
      · exact r1
      · apply x_cond_t
        · exact t1
        · exact exec_skip
    · apply x_seq
      · apply x_block
        apply x_seq
        · exact r2
        · apply x_seq
          · exact r3
          · exact r4
      · exact r5
  case inv =>
    exact {
      old := fun m o e => by
        have h1 := K2.old m o (I.old m o e)
        by_cases hm : m = s
        · subst hm
          exact absurd e (A.sn o)
        · exact (hSo m hm).trans h1
      low := fun m o e => by
        rcases Go.Eng.T.get_set _ _ _ _ _ _ e with ⟨z, _⟩ | ⟨_, e2⟩
        · show m < h2.next + 2 + 2 + 3; omega
        · have : m < h2.next := K2.low (I.low.up (by omega)) m o e2
          show m < h2.next + 2 + 2 + 3; omega
      sl := by show s < h2.next + 2 + 2 + 3; omega
      nx := by show h2.next + 2 + 2 + 3 ≤ _; omega
      n := n5
      t0 := (k5 0 (by omega)).trans ((k4 0 (by omega)).trans ((k3 0 (by omega)).trans ((k2 0 (by omega)).trans ((k1 0 (by omega)).trans I.t0))))
      t3 := (k5 3 (by omega)).trans ((k4 3 (by omega)).trans ((k3 3 (by omega)).trans ((k2 3 (by omega)).trans ((k1 3 (by omega)).trans I.t3))))
      t4 := t4
      st := ⟨_, ids', rows', D', ws', hSs, wf0, wf1, { S' with li := S'.li.apart S'.n1 hpS, lr := S'.lr.apart S'.n2 hpS }⟩ }

theorem m_loop2 {tb : Tab} (T : MW tb) (T9 : tb.und 9 = some .string) {H : EH} {s : Nat} {x : EV} {arr : List EV} {bss : List (List Nat)} (A : MAll2 H s x arr bss) (N : Nat) :
    ∀ (k i : Nat) (f : Fr) (h : EH), i + k = arr.length → MInv2 H s x arr bss i f h → ∃ f' h', exec tb (N + k + 5000) false (.loop mB) f h = .exit 0 f' h' ∧ f'.n = 28 ∧ ∀ m o, H.get m = some o → h'.get m = some o := by
  intro k
  induction k with
  | zero =>
    intro i f h hi I
    obtain ⟨f1, r1, n1, t1, k1⟩ := mr3 (bb := false) T (N + 4987) I.n I.t0 I.t4 (A.xs.mono I.old) (by simp; omega)
    refine ⟨f1, ⟨h.objs, h.next + 4⟩, ?run, n1, I.old⟩
    apply x_loop_exit
    apply x_seq_exit
    apply x_seq
    · exact r1
    · apply x_cond_f
      · exact t1
      · exact exec_exit
  | succ k ih =>
    intro i f h hi I
    obtain ⟨f1, h1, e1, I1⟩ := m_body2 T T9 A I (by omega) (N + k + 4980) (by omega)
    obtain ⟨f2, h2, e2, n2, o2⟩ := ih (i + 1) f1 h1 (by omega) I1
    rw [show N + k + 4980 + 20 = N + k + 5000 from by omega] at e1
    refine ⟨f2, h2, ?_, n2, o2⟩
    rw [show N + (k + 1) + 5000 = (N + k + 5000) + 1 from by omega]
    exact x_loop e1 e2

/-- Meets, where rows of one id are alike: false; what was is there still. -/
theorem meets_call2 {tb : Tab} (T : MW tb) (T9 : tb.und 9 = some .string) (i23 : tb.intr 16 = none) (f23 : tb.fn 16 = some Go.Proofs.Tryz.f16) {h : EH} {x : EV} {arr : List EV} {bss : List (List Nat)} (hlow : Low h) (A : MAll2 h (h.next + 2) x arr bss) :
    ∃ N h', callWith tb (exec tb N) 16 [x] h = some (.bool false, h') ∧ ∀ m o, h.get m = some o → h'.get m = some o := by
  have hnx := A.nx
  let f0 : Fr := initFr 28 [x]
  have h0 : f0.get 0 = some x := rfl
  let h3 : EH := EH.set (EH.set h (h.next + 2) (.cells (rowOf [.nilSlice, .nilSlice]) 168 true)) (h.next + 2) (.cells (writeFrom (rowOf [.nilSlice, .nilSlice]) 0 [.nilSlice, .nilSlice]) 168 true)
  have hs3 : h3.get (h.next + 2) = some (.cells (writeFrom (rowOf [.nilSlice, .nilSlice]) 0 [.nilSlice, .nilSlice]) 168 true) := oget_same (by omega)
  have hold : ∀ m o, h.get m = some o → h3.get m = some o := fun m o e => by
    have hm : m ≠ h.next + 2 := by have := hlow m o e; omega
    exact (oget_other (by omega) hm).trans ((oget_other (by omega) hm).trans e)
  let f4 : Fr := (((f0.wth 2 (.bool false)).wth 8 (.agg [.nilSlice, .nilSlice])).wth 3 (.ptr (h.next + 2) 0)).wth 4 (.int .i64 0)
  have I : MInv2 h (h.next + 2) x arr bss 0 f4 ⟨h3.objs, h.next + 5⟩ := {
    old := hold
    low := fun m o e => by
      rcases Go.Eng.T.get_set _ _ _ _ _ _ e with ⟨z, _⟩ | ⟨_, e⟩
      · show m < h.next + 5; omega
      rcases Go.Eng.T.get_set _ _ _ _ _ _ e with ⟨z, _⟩ | ⟨_, e⟩
      · show m < h.next + 5; omega
      have := hlow m o e
      show m < h.next + 5; omega
    sl := by show h.next + 2 < h.next + 5; omega
    nx := by show h.next + 5 ≤ _; omega
    n := rfl
    t0 := by simp only [f4, Fr.get_wth_other, h0, Nat.reduceLT, Nat.reduceEqDiff, ne_eq, not_false_eq_true]
    t3 := by simp only [f4, Fr.get_wth_same, Fr.get_wth_other, Nat.reduceLT, Nat.reduceEqDiff, ne_eq, not_false_eq_true]
    t4 := Fr.get_wth_same (by omega)
    st := ⟨_, .nilSlice, .nilSlice, [], [], hs3, wf0, wf1, { li := .nil, lr := .nil, len := rfl, le := Nat.le_refl _, row := fun j h1 => by simp at h1, sub := fun _ h => (by cases h), n1 := .inl rfl, n2 := .inl rfl }⟩ }
  obtain ⟨f5, h5, r5, n5, o5⟩ := m_loop2 T T9 A 0 arr.length 0 f4 ⟨h3.objs, h.next + 5⟩ (by omega) I
  refine ⟨arr.length + 5005, ⟨h5.objs, h5.next + 1⟩, ?_, o5⟩
  refine call_ret (vs := [.bool false]) i23 f23 rfl rfl (f := f5.wth 2 (.bool false)) ?run ?res
  case run =>
    apply x_seq
    · apply x_region
      apply r_val
      · exact (by omega : 2 < 28)
      · simp only [op_assign, ev_const, conv_bool, Option.map_some] <;> rfl
      exact r_nil
    apply x_seq
    · apply x_region
      apply r_val
      · exact (by omega : 8 < 28)
      · exact build0 T
      apply r_val
      · exact (by omega : 3 < 28)
      · rw [op_alloc, T.z154]
        simp only [EV.cells, List.all_cons, List.all_nil, EV.one, Bool.and_self, T.s154, List.length_cons, List.length_nil, Nat.zero_add, Nat.reduceAdd, decide_true, cond] <;> rfl
      apply r_skip
      · exact op_store_agg (q := h.next + 2) (l := [.nilSlice, .nilSlice]) (by simp only [ev_tmp, Fr.get_wth_same, Nat.reduceLT] <;> rfl) (by simp only [ev_tmp, Fr.get_wth_same, Fr.get_wth_other, Nat.reduceLT, Nat.reduceEqDiff, ne_eq, not_false_eq_true]) T.s154 (oget_same (by omega)) rfl rfl
      exact r_nil
    apply x_seq
    · apply x_seq
      · apply x_region
        apply r_val
        · exact (by omega : 4 < 28)
        · simp only [op_assign, ev_const, conv_int, Option.map_some] <;> rfl
        exact r_nil
      · apply x_block_exit
        rw [Nat.zero_add] at r5
        exact r5
    apply x_seq
    · apply x_region
      apply r_val
      · simp only [n5, Nat.reduceLT]
      · simp only [op_assign, ev_const, conv_bool, Option.map_some] <;> rfl
      exact r_nil
    · exact exec_ret
  case res => exact res_one (Fr.get_wth_same (by omega))
end Go.Eng

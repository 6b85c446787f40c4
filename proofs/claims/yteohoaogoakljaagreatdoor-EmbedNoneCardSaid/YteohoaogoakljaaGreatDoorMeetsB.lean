/- A part of the proof of EmbedNoneCardSaid: the runs of the document's example and of the law's body, and facts of the row. Conditions: none. -/
import Derived.Test.YteohoaogoakljaaGreatDoorMeetsA
namespace Go.Eng
open Go

theorem cells_one {v : EV} (h : v.one = true) : v.cells = [v] := by cases v <;> first | rfl | cases h

theorem readFrom_some {c : T EV} : ∀ {k off : Nat}, (∀ j, j < k → (c.get (off + j)).isSome = true) → ∃ l, readFrom c off k = some l := by
  intro k
  induction k with
  | zero => intro off _; exact ⟨[], rfl⟩
  | succ k ih =>
    intro off h
    obtain ⟨l, hl⟩ := ih (off := off + 1) fun j hj => by
      have := h (j + 1) (by omega)
      rwa [show off + (j + 1) = off + 1 + j from by omega] at this
    have h0 := h 0 (by omega)
    obtain ⟨v, hv⟩ := Option.isSome_iff_exists.1 h0
    exact ⟨v :: l, by simp only [readFrom]; rw [show c.get off = some v from hv]; simp only; rw [show Nat.add off 1 = off + 1 from rfl, hl]⟩

theorem writeFrom_has : ∀ {l : List EV} {c : T EV} {off k : Nat}, off + l.length < 100000000000 → (off ≤ k → k < off + l.length → ((writeFrom c off l).get k).isSome = true) ∧ ((c.get k).isSome = true → ((writeFrom c off l).get k).isSome = true) := by
  intro l
  induction l with
  | nil => intro c off k _; exact ⟨fun a b => by simp at b; omega, fun h => h⟩
  | cons e l ih =>
    intro c off k hb
    have hb' : off + 1 + l.length < 100000000000 := by simp at hb; omega
    obtain ⟨i1, i2⟩ := ih (c := T.set deep c off e) (off := off + 1) (k := k) hb'
    have hset : k = off → ((T.set deep c off e).get k).isSome = true := fun h => by
      subst h; rw [T.get_set_same _ _ _ _ (by simp only [deep]; simp at hb; omega)]; rfl
    refine ⟨fun a b => ?_, fun h => ?_⟩
    · by_cases hk : k = off
      · exact i2 (hset hk)
      · exact i1 (by omega) (by simp at b; omega)
    · by_cases hk : k = off
      · exact i2 (hset hk)
      · refine i2 ?_
        rw [T.get_set_other _ _ _ _ _ (by simp only [deep]; simp at hb; omega) hk]
        exact h

variable {tb : Tab} {h : EH} {nm : Nat} {f : Fr} {dst : Option Tmp} {ty : TypeId} {pos : String} {af : Array Edge}

theorem bs_one {t e : TypeId} {x : Operand} {z v : EV} (hu : tb.und t = some (.slice e)) (hs : tb.size e = some 1) (hz : tb.zero e = some z) (hz1 : z.one = true) (hx : ev f x = some v) (hv : v.one = true) :
    opE tb h nm f ⟨dst, .buildSlice t 1 #[(0, x)], ty, pos, af, none⟩ = some (.val (.slice nm 0 1 (some 1) 1) (h.set nm (.cells (rowOf [v]) e false))) := by
  rw [op_buildSlice, hu]
  have hzr : zeroRow tb e 1 = some [z] := by
    unfold zeroRow
    rw [if_neg (by omega), hz, hs]
    simp only [cells_one hz1, List.length_singleton, List.all_cons, List.all_nil, hz1]
    rfl
  have hp : partsE f [(0, x)] = some [(0, v)] := by simp only [partsE, hx]
  simp only [hs, hzr]
  rw [hp]
  have hf : fillE (fun i => some (i * 1, 1)) [z] [(0, v)] = some [v] := by
    simp only [fillE, cells_one hv, List.length_singleton, putCells]
    rfl
  simp only [hf, List.all_cons, List.all_nil, hv]
  rfl

theorem builtin_append {t u : TypeId} {s x : EV} : builtinE tb h nm .append [t, u] [s, x] = (match tb.und t, tb.und u with
    | some (.slice e), some d => (match tb.inf e with
      | some i => cond (Nat.ble i.bytes 1024 && Nat.blt 0 i.size && zeroOk tb e i.size) (match d with
        | .int _ => (match x with
          | .int _ k => if 0 ≤ k ∧ k ≤ 1073741824 then (match zeroRow tb e k.toNat with
            | some z => (match appendE tb h nm e i.size s z k.toNat with
              | some (v, h') => some (.val v h')
              | none => none)
            | none => none) else none
          | _ => none)
        | _ => match sourceE h x i.size with
          | some (news, m) => cond (Nat.beq news.length (m * i.size)) (match appendE tb h nm e i.size s news m with
            | some (v, h') => some (.val v h')
            | none => none) none
          | none => none) none
      | none => none)
    | _, _ => none) := rfl

theorem app_one {t e e' : TypeId} {i : TypeInfo} {z v : EV} {a len k xb : Nat} {c : T EV} {vr : Bool} (hu : tb.und t = some (.slice e)) (hi : tb.inf e = some i) (hi1 : i.size = 1) (hib : i.bytes ≤ 1024) (hz : tb.zero e = some z) (hz1 : z.one = true)
    (hg : h.get a = some (.cells c e' vr)) (hr : ∀ j, j < len → (c.get j).isSome = true) (hle : len + 1 ≤ k) (hk : len + 1 ≤ 1073741824) (hx : h.cell xb 0 = some v) :
    builtinE tb h nm .append [t, t] [.slice a 0 len (some k) 1, .slice xb 0 1 (some 1) 1] = some (.val (.slice a 0 (len + 1) (some k) 1) (h.set a (.cells (T.set deep c len v) e' vr))) := by
  rw [builtin_append, hu]
  simp only [hi]
  have hzo : zeroOk tb e i.size = true := by unfold zeroOk; rw [hz, hi1]; simp only [cells_one hz1]; rfl
  have hc : (Nat.ble i.bytes 1024 && Nat.blt 0 i.size && zeroOk tb e i.size) = true := by
    rw [hzo, hi1, Nat.ble_eq_true_of_le hib]; rfl
  rw [hc]
  have hsrc : sourceE h (.slice xb 0 1 (some 1) 1) 1 = some ([v], 1) := by
    unfold sourceE
    simp only
    unfold EH.read
    unfold EH.cell at hx
    cases hg2 : h.get xb with
    | none => rw [hg2] at hx; cases hx
    | some o =>
      rw [hg2] at hx
      cases o <;> first | (cases hx; done) | skip
      rename_i cx ex xvr
      simp only at hx
      have : readFrom cx 0 1 = some [v] := by simp only [readFrom, hx]
      simp only [Nat.mul_one, this]
      rfl
  simp only [cond, hi1, hsrc, List.length_singleton]
  have happ : appendE tb h nm e 1 (.slice a 0 len (some k) 1) [v] 1 = some (.slice a 0 (len + 1) (some k) 1, h.set a (.cells (T.set deep c len v) e' vr)) := by
    obtain ⟨old, ho⟩ := readFrom_some (c := c) (k := len) (off := 0) fun j hj => by rw [Nat.zero_add]; exact hr j hj
    unfold appendE
    simp only
    rw [if_pos ⟨trivial, hk⟩, if_neg (by omega), hg]
    simp only [Nat.mul_one, ho]
    rw [if_pos hle]
    simp only [Nat.zero_add, writeFrom]
  simp only [happ]

theorem ms_one {t e : TypeId} {i : TypeInfo} {x : Operand} {z : EV} {n : Nat} (hu : tb.und t = some (.slice e)) (hi : tb.inf e = some i) (hi1 : tb.size e = some 1) (hib : i.bytes ≤ 1024) (hz : tb.zero e = some z) (hz1 : z.one = true)
    (hx : ev f x = some (.int .i64 ((n + 1 : Nat) : Int))) (hn : n < 100000000) :
    opE tb h nm f ⟨dst, .makeSlice t (.const (.int .i64 0)) x, ty, pos, af, none⟩ = some (.val (.slice nm 0 0 (some (n + 1)) 1) (h.set nm (.cells (rowOf (repl [z] (n + 1))) e false))) := by
  rw [op_makeSlice, hu, hx, ev_const, conv_int]
  simp only [hi, hi1]
  have hzr : zeroRow tb e (n + 1) = some (repl [z] (n + 1)) := by
    unfold zeroRow
    rw [if_neg (by omega), hz, hi1]
    simp only [cells_one hz1, List.length_singleton, List.all_cons, List.all_nil, hz1]
    rfl
  have hb : (n + 1) * i.bytes ≤ 100000000 * 1024 := Nat.mul_le_mul (by omega) hib
  rw [if_pos ⟨by omega, by omega, by omega, by
    have : (((n + 1 : Nat) : Int) * (i.bytes : Int)) = (((n + 1) * i.bytes : Nat) : Int) := by push_cast; rfl
    rw [this]; omega⟩]
  simp only [Int.toNat_natCast, hzr]
  rfl

theorem repl_one_length (z : EV) (n : Nat) : (repl [z] n).length = n := by simp [repl_length]
theorem rowOf_has {l : List EV} {k : Nat} (hl : l.length < 100000000000) (hk : k < l.length) : ((rowOf l).get k).isSome = true := (writeFrom_has (by omega)).1 (by omega) (by omega)
end Go.Eng

namespace Go.Eng
open Go

theorem oget_same {t : T EO} {n : Nat} {o : EO} (hn : n < 100000000000) : T.get (T.set deep t n o) n = some o := T.get_set_same _ _ _ _ (by simp only [deep]; omega)
theorem oget_other {t : T EO} {n m : Nat} {o : EO} (hn : n < 100000000000) (hne : m ≠ n) : T.get (T.set deep t n o) m = T.get t m := T.get_set_other _ _ _ _ _ (by simp only [deep]; omega) hne
theorem cell_of {h : EH} {n off : Nat} {c : T EV} {e : TypeId} {vr : Bool} {v : EV} (hg : h.get n = some (.cells c e vr)) (hc : c.get off = some v) : h.cell n off = some v := by
  unfold EH.cell; rw [hg]; exact hc

noncomputable def putB : Code := Code.at [true, true, true, true, true, true, false, true, false, false] (bodyOf Go.Proofs.Tryz.f58)

structure MV (tb : Tab) : Prop extends MU tb where
  z23 : tb.zero 23 = some (.int .u64 0)
  z58 : tb.zero 63 = some .nilSlice
  i23 : ∃ i, tb.inf 23 = some i ∧ i.size = 1 ∧ i.bytes ≤ 1024
  i58 : ∃ i, tb.inf 63 = some i ∧ i.size = 1 ∧ i.bytes ≤ 1024

/-- One more id goes into the new row. -/
theorem put_r10 {tb : Tab} (T : MV tb) {p a b off n i : Nat} {cap : Option Nat} {v : EV} {c : Go.Eng.T EV} (fu : Nat) {f : Fr} {h : EH}
   (hn : f.n = 73) (h2 : f.get 2 = some (.ptr p 0)) (h9 : f.get 9 = some (.slice a 0 i (some (n + 1)) 1)) (h11 : f.get 11 = some (.int .i64 i)) (hi : i < n) (hbig : n < 100000000) (hnx : h.next < 10000000000)
   (hp : h.cell p 0 = some (.slice b off n cap 1)) (hc : h.cell b (off + i) = some v) (hv : v.one = true) (ha : h.get a = some (.cells c 23 false)) (hha : ∀ j, j < n + 1 → (c.get j).isSome = true) (han : a < h.next) :
   ∃ f1, exec tb (fu + 10) false (Code.at [true, false, false, false] putB) f h = .normal f1 ⟨Go.Eng.T.set deep (Go.Eng.T.set deep h.objs (h.next + 6) (.cells (rowOf [v]) 23 false)) a (.cells (Go.Eng.T.set deep c i v) 23 false), h.next + 9⟩ ∧
     f1.n = 73 ∧ f1.get 9 = some (.slice a 0 (i + 1) (some (n + 1)) 1) ∧ ∀ t, t ≠ 9 → t < 47 → f1.get t = f.get t := by
  have hcell : ∀ k, EH.cell ⟨h.objs, k⟩ b (off + i) = some v := fun k => hc
  have hpc : ∀ k, EH.cell ⟨h.objs, k⟩ p 0 = some (.slice b off n cap 1) := fun k => hp
  obtain ⟨ti, q1, q2, q3⟩ := T.i23
  refine ⟨?f1, ?run, ?rest⟩
  case run =>
    apply x_region
    apply r_val
    · simp only [Fr.wth_n, hn, Nat.reduceLT]
    · simp only [op_move, ev_tmp, h9, Option.map_some] <;> rfl
    apply r_val
    · simp only [Fr.wth_n, hn, Nat.reduceLT]
    · apply fa0 T.toMU
      simp only [ev_tmp, h2, Fr.get_wth_other, Nat.reduceLT, Nat.reduceEqDiff, ne_eq, not_false_eq_true] <;> rfl
    apply r_val
    · simp only [Fr.wth_n, hn, Nat.reduceLT]
    · simp only [op_load, ev_tmp, Fr.get_wth_same, Nat.reduceLT, load_one T.u45 (by rfl), hpc, Option.map_some] <;> rfl
    iterate 3 (apply r_val; (· simp only [Fr.wth_n, hn, Nat.reduceLT]); (· simp only [op_move, op_indexAddr, op_load, ev_tmp, h11, Fr.get_wth_same, Fr.get_wth_other, Nat.reduceLT, Nat.reduceEqDiff, ne_eq, not_false_eq_true, Option.map_some, T.u45, T.s23, load_one T.u23 (by rfl), hcell, Int.ofNat_lt, hi, Int.natCast_nonneg, and_self, if_true, Int.toNat_natCast, Nat.mul_one] <;> rfl))
    apply r_val
    · simp only [Fr.wth_n, hn, Nat.reduceLT]
    · exact bs_one T.u45 T.s23 T.z23 rfl (by simp only [ev_tmp, Fr.get_wth_same, Nat.reduceLT]) hv
    apply r_val
    · simp only [Fr.wth_n, hn, Nat.reduceLT]
    · rw [op_append]
      simp only [ev_tmp, Fr.get_wth_same, Fr.get_wth_other, Nat.reduceLT, Nat.reduceEqDiff, ne_eq, not_false_eq_true]
      exact app_one T.u45 q1 q2 q3 T.z23 rfl ((oget_other (by omega) (by omega)).trans ha) (fun j hj => hha j (by omega)) (by omega) (by omega) (cell_of (oget_same (by omega)) rfl)
    apply r_val
    · simp only [Fr.wth_n, hn, Nat.reduceLT]
    · simp only [op_assign, ev_tmp, Fr.get_wth_same, Nat.reduceLT, Option.map_some] <;> rfl
    exact r_nil
  case rest =>
    refine ⟨rfl |> fun (_ : True = True) => by simp only [Fr.wth_n, hn], Fr.get_wth_same (by omega), fun t h1 h2 => ?_⟩
    iterate 9 (rw [Fr.get_wth_other (by omega) (by omega)])

/-- One more row goes into the new row of rows. -/
theorem put_r11 {tb : Tab} (T : MV tb) {p a b off n i : Nat} {cap : Option Nat} {v : EV} {c : Go.Eng.T EV} (fu : Nat) {f : Fr} {h : EH}
   (hn : f.n = 73) (h2 : f.get 2 = some (.ptr p 0)) (h9 : f.get 10 = some (.slice a 0 i (some (n + 1)) 1)) (h11 : f.get 11 = some (.int .i64 i)) (hi : i < n) (hbig : n < 100000000) (hnx : h.next < 10000000000)
   (hp : h.cell p 1 = some (.slice b off n cap 1)) (hc : h.cell b (off + i) = some v) (hv : v.one = true) (ha : h.get a = some (.cells c 63 false)) (hha : ∀ j, j < n + 1 → (c.get j).isSome = true) (han : a < h.next) :
   ∃ f1, exec tb (fu + 10) false (Code.at [true, false, false, true] putB) f h = .normal f1 ⟨Go.Eng.T.set deep (Go.Eng.T.set deep h.objs (h.next + 6) (.cells (rowOf [v]) 63 false)) a (.cells (Go.Eng.T.set deep c i v) 63 false), h.next + 9⟩ ∧
     f1.n = 73 ∧ f1.get 10 = some (.slice a 0 (i + 1) (some (n + 1)) 1) ∧ ∀ t, t ≠ 10 → t < 47 → f1.get t = f.get t := by
  have hcell : ∀ k, EH.cell ⟨h.objs, k⟩ b (off + i) = some v := fun k => hc
  have hpc : ∀ k, EH.cell ⟨h.objs, k⟩ p 1 = some (.slice b off n cap 1) := fun k => hp
  obtain ⟨ti, q1, q2, q3⟩ := T.i58
  refine ⟨?f1, ?run, ?rest⟩
  case run =>
    apply x_region
    apply r_val
    · simp only [Fr.wth_n, hn, Nat.reduceLT]
    · simp only [op_move, ev_tmp, h9, Option.map_some] <;> rfl
    apply r_val
    · simp only [Fr.wth_n, hn, Nat.reduceLT]
    · apply fa1 T.toMU
      simp only [ev_tmp, h2, Fr.get_wth_other, Nat.reduceLT, Nat.reduceEqDiff, ne_eq, not_false_eq_true] <;> rfl
    apply r_val
    · simp only [Fr.wth_n, hn, Nat.reduceLT]
    · simp only [op_load, ev_tmp, Fr.get_wth_same, Nat.reduceLT, load_one T.u44 (by rfl), hpc, Option.map_some] <;> rfl
    iterate 3 (apply r_val; (· simp only [Fr.wth_n, hn, Nat.reduceLT]); (· simp only [op_move, op_indexAddr, op_load, ev_tmp, h11, Fr.get_wth_same, Fr.get_wth_other, Nat.reduceLT, Nat.reduceEqDiff, ne_eq, not_false_eq_true, Option.map_some, T.u44, T.s58, load_one T.u58 (by rfl), hcell, Int.ofNat_lt, hi, Int.natCast_nonneg, and_self, if_true, Int.toNat_natCast, Nat.mul_one] <;> rfl))
    apply r_val
    · simp only [Fr.wth_n, hn, Nat.reduceLT]
    · exact bs_one T.u44 T.s58 T.z58 rfl (by simp only [ev_tmp, Fr.get_wth_same, Nat.reduceLT]) hv
    apply r_val
    · simp only [Fr.wth_n, hn, Nat.reduceLT]
    · rw [op_append]
      simp only [ev_tmp, Fr.get_wth_same, Fr.get_wth_other, Nat.reduceLT, Nat.reduceEqDiff, ne_eq, not_false_eq_true]
      exact app_one T.u44 q1 q2 q3 T.z58 rfl ((oget_other (by omega) (by omega)).trans ha) (fun j hj => hha j (by omega)) (by omega) (by omega) (cell_of (oget_same (by omega)) rfl)
    apply r_val
    · simp only [Fr.wth_n, hn, Nat.reduceLT]
    · simp only [op_assign, ev_tmp, Fr.get_wth_same, Nat.reduceLT, Option.map_some] <;> rfl
    exact r_nil
  case rest =>
    refine ⟨rfl |> fun (_ : True = True) => by simp only [Fr.wth_n, hn], Fr.get_wth_same (by omega), fun t h1 h2 => ?_⟩
    iterate 9 (rw [Fr.get_wth_other (by omega) (by omega)])

theorem put_r8 {tb : Tab} (T : MV tb) {p i : Nat} {ids : EV} {vs : List EV} {bb : Bool} (fu : Nat) {f : Fr} {h : EH}
   (hn : f.n = 73) (h2 : f.get 2 = some (.ptr p 0)) (h11 : f.get 11 = some (.int .i64 i)) (hi : decide (i < vs.length) = bb) (hp : h.cell p 0 = some ids) (hl : ListAt h ids vs) :
   ∃ f1, exec tb (fu + 10) false (Code.at [false, false] putB) f h = .normal f1 ⟨h.objs, h.next + 5⟩ ∧ f1.n = 73 ∧ f1.get 44 = some (.bool bb) ∧ ∀ t, t < 40 → f1.get t = f.get t := by
  have hpc : ∀ k, EH.cell ⟨h.objs, k⟩ p 0 = some ids := fun k => hp
  have hlen : ∀ k, lenE tb ⟨h.objs, k⟩ 46 ids = some (.int .i64 ((vs.length : Nat) : Int)) := fun k => hl.len T.u45
  refine ⟨?f1, ?run, ?rest⟩
  case run =>
    apply x_region
    apply r_val
    · simp only [Fr.wth_n, hn, Nat.reduceLT]
    · simp only [op_move, ev_tmp, h11, Option.map_some] <;> rfl
    apply r_val
    · simp only [Fr.wth_n, hn, Nat.reduceLT]
    · apply fa0 T.toMU
      simp only [ev_tmp, h2, Fr.get_wth_other, Nat.reduceLT, Nat.reduceEqDiff, ne_eq, not_false_eq_true] <;> rfl
    apply r_val
    · simp only [Fr.wth_n, hn, Nat.reduceLT]
    · simp only [op_load, ev_tmp, Fr.get_wth_same, Nat.reduceLT, load_one T.u45 (by rfl), hpc, Option.map_some] <;> rfl
    apply r_val
    · simp only [Fr.wth_n, hn, Nat.reduceLT]
    · simp only [op_len, ev_tmp, Fr.get_wth_same, Nat.reduceLT, hlen, Option.map_some] <;> rfl
    apply r_val
    · simp only [Fr.wth_n, hn, Nat.reduceLT]
    · simp only [op_binOp, ev_tmp, Fr.get_wth_same, Fr.get_wth_other, Nat.reduceLT, Nat.reduceEqDiff, ne_eq, not_false_eq_true, Option.map_some, bin_lss, guard_int, cond, Int.ofNat_lt, hi] <;> rfl
    exact r_nil
  case rest =>
    refine ⟨by simp only [Fr.wth_n, hn], Fr.get_wth_same (by omega), fun t h1 => ?_⟩
    iterate 5 (rw [Fr.get_wth_other (by omega) (by omega)])

theorem put_r9 {tb : Tab} {i : Nat} (fu : Nat) {f : Fr} {h : EH} (hn : f.n = 73) (h11 : f.get 11 = some (.int .i64 i)) (hi : i < 1000000000) :
   ∃ f1, exec tb (fu + 10) false (Code.at [true, true] putB) f h = .normal f1 ⟨h.objs, h.next + 3⟩ ∧ f1.n = 73 ∧ f1.get 11 = some (.int .i64 ((i + 1 : Nat) : Int)) ∧ ∀ t, t < 40 → t ≠ 11 → f1.get t = f.get t := by
  have hadd := add_i64 i (by omega)
  refine ⟨?f1, ?run, ?rest⟩
  case run =>
    apply x_region
    iterate 3 (apply r_val; (· simp only [Fr.wth_n, hn, Nat.reduceLT]); (· simp only [op_move, op_assign, op_binOp, ev_tmp, ev_const, conv_int, h11, Fr.get_wth_same, Nat.reduceLT, Option.map_some, bin_add, guard_int, cond, hadd] <;> rfl))
    exact r_nil
  case rest =>
    refine ⟨by simp only [Fr.wth_n, hn], Fr.get_wth_same (by omega), fun t h1 h2 => ?_⟩
    iterate 3 (rw [Fr.get_wth_other (by omega) (by omega)])

/-- What stands while the rows are copied: h0 is the heap that was, p the store, q the result, a and b the new rows. -/
structure PInv (h0 : EH) (p q a b : Nat) (ids rows : EV) (vs ws : List EV) (i : Nat) (f : Fr) (h : EH) : Prop where
  old : ∀ m o, h0.get m = some o → m ≠ a → m ≠ b → h.get m = some o
  back : ∀ m o, h.get m = some o → (∃ o', h0.get m = some o') ∨ (h0.next ≤ m ∧ m < h.next)
  ra : ∃ c, h.get a = some (.cells c 23 false) ∧ (∀ j, j < vs.length + 1 → (c.get j).isSome = true) ∧ ∀ j, j < i → c.get j = vs[j]?
  rb : ∃ c, h.get b = some (.cells c 63 false) ∧ (∀ j, j < vs.length + 1 → (c.get j).isSome = true) ∧ ∀ j, j < i → c.get j = ws[j]?
  nx : h0.next ≤ h.next
  n : f.n = 73
  t2 : f.get 2 = some (.ptr p 0)
  t9 : f.get 9 = some (.slice a 0 i (some (vs.length + 1)) 1)
  t10 : f.get 10 = some (.slice b 0 i (some (vs.length + 1)) 1)
  t11 : f.get 11 = some (.int .i64 i)
  keep : ∀ t, t = 1 ∨ t = 4 ∨ t = 7 → True

structure PAll (h0 : EH) (p q a b : Nat) (ids rows : EV) (vs ws : List EV) : Prop where
  low : ∀ m o, h0.get m = some o → m < h0.next
  cp0 : h0.cell p 0 = some ids
  cp1 : h0.cell p 1 = some rows
  li : ListAt h0 ids vs
  lr : ListAt h0 rows ws
  len : ws.length = vs.length
  pa : p ≠ a ∧ p ≠ b ∧ a ≠ b ∧ a < h0.next ∧ b < h0.next
  one : (∀ v ∈ vs, v.one = true) ∧ ∀ v ∈ ws, v.one = true
  big : vs.length < 100000000
  ia : ∀ x off n cap, ids = .slice x off n cap 1 → 0 < vs.length → x ≠ a ∧ x ≠ b
  ir : ∀ x off n cap, rows = .slice x off n cap 1 → 0 < vs.length → x ≠ a ∧ x ≠ b
end Go.Eng

namespace Go.Eng
open Go

theorem get_of_cell {h : EH} {n off : Nat} {v : EV} (hc : h.cell n off = some v) : ∃ o, h.get n = some o := by
  unfold EH.cell at hc
  cases hg : h.get n with
  | none => rw [hg] at hc; cases hc
  | some o => exact ⟨o, rfl⟩
theorem cell_old {h0 h : EH} {m k : Nat} {v : EV} (ho : ∀ o, h0.get m = some o → h.get m = some o) (hc : h0.cell m k = some v) : h.cell m k = some v := by
  obtain ⟨o, hg⟩ := get_of_cell hc
  unfold EH.cell at hc ⊢
  rw [ho o hg]
  rw [hg] at hc
  exact hc

theorem put_r10' {tb : Tab} (T : MV tb) {p a b off n i : Nat} {cap : Option Nat} {v : EV} {c : Go.Eng.T EV} (fu : Nat) {f : Fr} {h : EH}
   (hn : f.n = 73) (h2 : f.get 2 = some (.ptr p 0)) (h9 : f.get 9 = some (.slice a 0 i (some (n + 1)) 1)) (h11 : f.get 11 = some (.int .i64 i)) (hi : i < n) (hbig : n < 100000000) (hnx : h.next < 10000000000)
   (hp : h.cell p 0 = some (.slice b off n cap 1)) (hc : h.cell b (off + i) = some v) (hv : v.one = true) (ha : h.get a = some (.cells c 23 false)) (hha : ∀ j, j < n + 1 → (c.get j).isSome = true) (han : a < h.next) :
   ∃ f1 h1, exec tb (fu + 10) false (Code.at [true, false, false, false] putB) f h = .normal f1 h1 ∧
     f1.n = 73 ∧ f1.get 9 = some (.slice a 0 (i + 1) (some (n + 1)) 1) ∧ (∀ t, t ≠ 9 → t < 47 → f1.get t = f.get t) ∧
     h1.next = h.next + 9 ∧ (∀ m, m ≠ a → m < h.next → h1.get m = h.get m) ∧ h1.get a = some (.cells (Go.Eng.T.set deep c i v) 23 false) ∧ (∀ m o, h1.get m = some o → m = a ∨ m = h.next + 6 ∨ ∃ o', h.get m = some o') := by
  obtain ⟨f1, r, n1, t1, k1⟩ := put_r10 T fu hn h2 h9 h11 hi hbig hnx hp hc hv ha hha han
  exact ⟨f1, _, r, n1, t1, k1, rfl, fun m u1 u2 => (oget_other (by omega) u1).trans (oget_other (by omega) (by omega)), oget_same (by omega), fun m o e => by
    rcases Go.Eng.T.get_set _ _ _ _ _ _ e with ⟨h1, _⟩ | ⟨_, e2⟩
    · exact .inl h1
    · rcases Go.Eng.T.get_set _ _ _ _ _ _ e2 with ⟨h1, _⟩ | ⟨_, e3⟩
      · exact .inr (.inl h1)
      · exact .inr (.inr ⟨o, e3⟩)⟩

theorem put_r11' {tb : Tab} (T : MV tb) {p a b off n i : Nat} {cap : Option Nat} {v : EV} {c : Go.Eng.T EV} (fu : Nat) {f : Fr} {h : EH}
   (hn : f.n = 73) (h2 : f.get 2 = some (.ptr p 0)) (h9 : f.get 10 = some (.slice a 0 i (some (n + 1)) 1)) (h11 : f.get 11 = some (.int .i64 i)) (hi : i < n) (hbig : n < 100000000) (hnx : h.next < 10000000000)
   (hp : h.cell p 1 = some (.slice b off n cap 1)) (hc : h.cell b (off + i) = some v) (hv : v.one = true) (ha : h.get a = some (.cells c 63 false)) (hha : ∀ j, j < n + 1 → (c.get j).isSome = true) (han : a < h.next) :
   ∃ f1 h1, exec tb (fu + 10) false (Code.at [true, false, false, true] putB) f h = .normal f1 h1 ∧
     f1.n = 73 ∧ f1.get 10 = some (.slice a 0 (i + 1) (some (n + 1)) 1) ∧ (∀ t, t ≠ 10 → t < 47 → f1.get t = f.get t) ∧
     h1.next = h.next + 9 ∧ (∀ m, m ≠ a → m < h.next → h1.get m = h.get m) ∧ h1.get a = some (.cells (Go.Eng.T.set deep c i v) 63 false) ∧ (∀ m o, h1.get m = some o → m = a ∨ m = h.next + 6 ∨ ∃ o', h.get m = some o') := by
  obtain ⟨f1, r, n1, t1, k1⟩ := put_r11 T fu hn h2 h9 h11 hi hbig hnx hp hc hv ha hha han
  exact ⟨f1, _, r, n1, t1, k1, rfl, fun m u1 u2 => (oget_other (by omega) u1).trans (oget_other (by omega) (by omega)), oget_same (by omega), fun m o e => by
    rcases Go.Eng.T.get_set _ _ _ _ _ _ e with ⟨h1, _⟩ | ⟨_, e2⟩
    · exact .inl h1
    · rcases Go.Eng.T.get_set _ _ _ _ _ _ e2 with ⟨h1, _⟩ | ⟨_, e3⟩
      · exact .inr (.inl h1)
      · exact .inr (.inr ⟨o, e3⟩)⟩

theorem put_body {tb : Tab} (T : MV tb) {h0 : EH} {p q a b i : Nat} {ids rows : EV} {vs ws : List EV} (A : PAll h0 p q a b ids rows vs ws) {f : Fr} {h : EH} (I : PInv h0 p q a b ids rows vs ws i f h) (hi : i < vs.length) (hnx : h.next < 1000000000) (fu : Nat) :
    ∃ f' h', exec tb (fu + 20) false putB f h = .normal f' h' ∧ PInv h0 p q a b ids rows vs ws (i + 1) f' h' ∧ h'.next = h.next + 26 ∧ (∀ t, t < 9 → f'.get t = f.get t) := by
  obtain ⟨pa1, pa2, pa3, pa4, pa5⟩ := A.pa
  obtain ⟨px, hpg⟩ := get_of_cell A.cp0
  have hpl : p < h0.next := A.low _ _ hpg
  have hnx0 := I.nx
  have oldp : ∀ o, h0.get p = some o → h.get p = some o := fun o e => I.old p o e pa1 pa2
  have cp0 := cell_old oldp A.cp0
  have cp1 := cell_old oldp A.cp1
  obtain ⟨x1, o1, c1, rfl, l1⟩ := A.li.inv hi
  have hir : i < ws.length := by rw [A.len]; exact hi
  obtain ⟨x2, o2, c2, rfl, l2⟩ := A.lr.inv hir
  obtain ⟨a1, a2⟩ := A.ia _ _ _ _ rfl (by omega)
  obtain ⟨b1, b2⟩ := A.ir _ _ _ _ rfl (by omega)
  have e1 := cell_old (h := h) (fun o e => I.old x1 o e a1 a2) (l1 i hi)
  have e2 := cell_old (h := h) (fun o e => I.old x2 o e b1 b2) (l2 i hir)
  have x2l : x2 < h0.next := by obtain ⟨o, hg⟩ := get_of_cell (l2 i hir); exact A.low _ _ hg
  obtain ⟨ca, ga, ga1, ga2⟩ := I.ra
  obtain ⟨cb, gb, gb1, gb2⟩ := I.rb
  have hbig := A.big
  obtain ⟨f1, r1, n1, t1, k1⟩ := put_r8 (bb := true) T (fu + 8) I.n I.t2 I.t11 (by simpa using hi) cp0 (.slice x1 o1 c1 vs (fun j hj => cell_old (h := h) (fun o e => I.old x1 o e a1 a2) (l1 j hj)))
  obtain ⟨f2, hA, r2, n2, t2, k2, nA, gA, gAa, bA⟩ := put_r10' T (n := vs.length) (v := vs[i]) (fu + 6) (h := ⟨h.objs, h.next + 5⟩) n1 ((k1 2 (by omega)).trans I.t2) ((k1 9 (by omega)).trans I.t9) ((k1 11 (by omega)).trans I.t11) hi hbig (by simp only; omega) cp0 e1 (A.one.1 _ (List.getElem_mem hi)) ga ga1 (by simp only; omega)
  simp only at nA gA
  have gA' : ∀ m, m ≠ a → m < h.next → hA.get m = h.get m := fun m u1 u2 => gA m u1 (by omega)
  obtain ⟨f3, hB, r3, n3, t3, k3, nB, gB, gBb, bB⟩ := put_r11' T (n := vs.length) (v := ws[i]) (fu + 6) (h := hA)
    n2 ((k2 2 (by omega) (by omega)).trans ((k1 2 (by omega)).trans I.t2)) ((k2 10 (by omega) (by omega)).trans ((k1 10 (by omega)).trans I.t10)) ((k2 11 (by omega) (by omega)).trans ((k1 11 (by omega)).trans I.t11)) hi hbig (by omega)
    (cell_old (fun o e => (gA' p pa1 (by omega)).trans e) (A.len ▸ cp1)) (cell_old (fun o e => (gA' x2 b1 (by omega)).trans e) e2) (A.one.2 _ (List.getElem_mem hir)) ((gA' b (Ne.symm pa3) (by omega)).trans gb) gb1 (by omega)
  obtain ⟨f4, r4, n4, t4, k4⟩ := put_r9 (tb := tb) (fu + 8) (h := hB) n3 ((k3 11 (by omega) (by omega)).trans ((k2 11 (by omega) (by omega)).trans ((k1 11 (by omega)).trans I.t11))) (by omega)
  have set_has : ∀ (c : Go.Eng.T EV) (v : EV) (j : Nat), (c.get j).isSome = true → ((Go.Eng.T.set deep c i v).get j).isSome = true := fun c v j hj => by
    by_cases hji : j = i
    · rw [hji, Go.Eng.T.get_set_same _ _ _ _ (by simp only [deep]; omega)]; rfl
    · rw [Go.Eng.T.get_set_other _ _ _ _ _ (by simp only [deep]; omega) hji]; exact hj
  have set_is : ∀ (c : Go.Eng.T EV) (us : List EV) (hu : i < us.length), (∀ j, j < i → c.get j = us[j]?) → ∀ j, j < i + 1 → (Go.Eng.T.set deep c i us[i]).get j = us[j]? := fun c us hu hc j hj => by
    by_cases hji : j = i
    · rw [hji, Go.Eng.T.get_set_same _ _ _ _ (by simp only [deep]; omega), List.getElem?_eq_getElem hu]
    · rw [Go.Eng.T.get_set_other _ _ _ _ _ (by simp only [deep]; omega) hji]; exact hc j (by omega)
  refine ⟨f4, ⟨hB.objs, hB.next + 3⟩, ?run, ?inv, ?nx, ?kp⟩
  case run =>
    apply x_seq
    · apply x_seq
      · exact r1
      · apply x_cond_t
        · exact t1
        · exact exec_skip
    · apply x_seq
      · apply x_block
        apply x_seq
        · exact r2
        · exact r3
      · exact r4
  case nx => simp only; omega
  case kp => exact fun t ht => (k4 t (by omega) (by omega)).trans ((k3 t (by omega) (by omega)).trans ((k2 t (by omega) (by omega)).trans (k1 t (by omega))))
  case inv => exact {
    old := fun m o e u1 u2 => by
      have hm := A.low m o e
      exact (gB m u2 (by omega)).trans ((gA' m u1 (by omega)).trans (I.old m o e u1 u2))
    back := fun m o e => by
      rcases bB m o e with h1 | h1 | ⟨o1, e1⟩
      · rcases I.back _ _ gb with h2 | h2
        · exact .inl (h1 ▸ h2)
        · exact .inr ⟨by omega, by simp only; omega⟩
      · exact .inr ⟨by omega, by simp only; omega⟩
      · rcases bA m o1 e1 with h1 | h1 | ⟨o2, e2⟩
        · rcases I.back _ _ ga with h2 | h2
          · exact .inl (h1 ▸ h2)
          · exact .inr ⟨by omega, by simp only; omega⟩
        · exact .inr ⟨by simp only at h1; omega, by simp only at h1 ⊢; omega⟩
        · rcases I.back m o2 e2 with h2 | h2
          · exact .inl h2
          · exact .inr ⟨h2.1, by simp only; omega⟩
    ra := ⟨_, (gB a pa3 (by omega)).trans gAa, fun j hj => set_has _ _ j (ga1 j hj), set_is ca vs hi ga2⟩
    rb := ⟨_, gBb, fun j hj => set_has _ _ j (gb1 j hj), set_is cb ws hir gb2⟩
    nx := by simp only; omega
    n := n4
    t2 := (k4 2 (by omega) (by omega)).trans ((k3 2 (by omega) (by omega)).trans ((k2 2 (by omega) (by omega)).trans ((k1 2 (by omega)).trans I.t2)))
    t9 := (k4 9 (by omega) (by omega)).trans ((k3 9 (by omega) (by omega)).trans t2)
    t10 := (k4 10 (by omega) (by omega)).trans t3
    t11 := t4
    keep := fun _ _ => trivial }

theorem put_loop {tb : Tab} (T : MV tb) {h0 : EH} {p q a b : Nat} {ids rows : EV} {vs ws : List EV} (A : PAll h0 p q a b ids rows vs ws) (N : Nat) :
    ∀ (k i : Nat) (f : Fr) (h : EH), i + k = vs.length → PInv h0 p q a b ids rows vs ws i f h → h.next + 26 * k + 10 < 1000000000 →
    ∃ f' h', exec tb (N + k + 30) false (.loop putB) f h = .exit 0 f' h' ∧ PInv h0 p q a b ids rows vs ws vs.length f' h' ∧ h'.next ≤ h.next + 26 * k + 5 ∧ (∀ t, t < 9 → f'.get t = f.get t) := by
  obtain ⟨pa1, pa2, pa3, pa4, pa5⟩ := A.pa
  intro k
  induction k with
  | zero =>
    intro i f h hi I hb
    have hin : i = vs.length := by omega
    subst hin
    have oldp : ∀ o, h0.get p = some o → h.get p = some o := fun o e => I.old p o e pa1 pa2
    have hl : ListAt h ids vs := by
      cases hA : A.li with
      | nil => exact .nil
      | slice x off cap vs hc =>
        exact .slice x off cap vs fun j hj => by
          obtain ⟨u1, u2⟩ := A.ia _ _ _ _ rfl (by omega)
          exact cell_old (fun o e => I.old x o e u1 u2) (hc j hj)
    obtain ⟨f1, r1, n1, t1, k1⟩ := put_r8 (bb := false) T (N + 17) I.n I.t2 I.t11 (by simp) (cell_old oldp A.cp0) hl
    refine ⟨f1, ⟨h.objs, h.next + 5⟩, ?run, ?inv, by simp only; omega, fun t ht => k1 t (by omega)⟩
    case run =>
      apply x_loop_exit
      apply x_seq_exit
      apply x_seq
      · exact r1
      · apply x_cond_f
        · exact t1
        · exact exec_exit
    case inv => exact { old := I.old, back := fun m o e => (I.back m o e).imp id fun h1 => ⟨h1.1, by simp only; omega⟩, ra := I.ra, rb := I.rb, nx := by have := I.nx; simp only; omega, n := n1, t2 := (k1 2 (by omega)).trans I.t2, t9 := (k1 9 (by omega)).trans I.t9, t10 := (k1 10 (by omega)).trans I.t10, t11 := (k1 11 (by omega)).trans I.t11, keep := fun _ _ => trivial }
  | succ k ih =>
    intro i f h hi I hb
    obtain ⟨f1, h1, e1, I1, nx1, kp1⟩ := put_body T A I (by omega) (by omega) (N + k + 10)
    obtain ⟨f2, h2, e2, I2, nx2, kp2⟩ := ih (i + 1) f1 h1 (by omega) I1 (by omega)
    rw [show N + k + 10 + 20 = N + k + 30 from by omega] at e1
    refine ⟨f2, h2, ?_, I2, by omega, fun t ht => (kp2 t ht).trans (kp1 t ht)⟩
    rw [show N + (k + 1) + 30 = (N + k + 30) + 1 from by omega]
    exact x_loop e1 e2
end Go.Eng

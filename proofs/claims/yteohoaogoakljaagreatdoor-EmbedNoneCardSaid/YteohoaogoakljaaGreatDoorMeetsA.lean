/- A part of the proof of EmbedNoneCardSaid: the runs of the document's example and of the law's body, and facts of the row. Conditions: none. -/
import Derived.Test.YteohoaogoakljaaGreatDoorEngM
import Derived.Test.YteohoaogoakljaaGreatDoorSeatOk
namespace Go.Eng
open Go

/-! Rows of bytes, and whether two unlike ones have one id. -/
def fstep (a b : Nat) : Nat := (Nat.xor a b * 1099511628211) % 18446744073709551616
noncomputable def fnvF (l : List Nat) : Nat → Nat := List.rec (motive := fun _ => Nat → Nat) (fun a => a) (fun b _ ih a => ih (fstep a b)) l
noncomputable def byteF (e : EV) : Option Nat :=
  onInt e (fun k n => IntKind.rec (motive := fun _ => Int → Option Nat) (fun _ => none) (fun _ => none) (fun _ => none) (fun _ => none) (fun n => Int.rec (fun m => Bool.rec none (some m) (Nat.ble (Nat.succ m) 256)) (fun _ => none) n) (fun _ => none) (fun _ => none) (fun _ => none) k n) none
noncomputable def mapO {α β : Type} (g : α → Option β) (l : List α) : Option (List β) := List.rec (some []) (fun a _ ih => Option.rec none (fun b => Option.rec none (fun bs => some (b :: bs)) ih) (g a)) l
noncomputable def cellsF {β : Type} (h : EH) (g : EV → Option β) (v : EV) : Option (List β) :=
  onSlice v fun n off len _ es => Bool.rec none (Option.rec none (mapO g) (EH.readK h n off len)) (Nat.beq es 1)
noncomputable def rowsF (h : EH) (x : EV) : Option (List (List Nat)) := cellsF h (cellsF h byteF) x
noncomputable def eqRow (a : List Nat) : List Nat → Bool := List.rec (motive := fun _ => List Nat → Bool) (fun b => List.rec true (fun _ _ _ => false) b) (fun x _ ih b => List.rec false (fun y t _ => Bool.rec false (ih t) (Nat.beq x y)) b) a
/-- Is every row that has this id the row r? -/
noncomputable def likeF (i : Nat) (r : List Nat) (l : List Nat) : List (List Nat) → Bool := List.rec (motive := fun _ => List (List Nat) → Bool) (fun _ => true) (fun j _ ih rs => List.rec false (fun s t _ => Bool.rec (ih t) (Bool.rec false (ih t) (eqRow r s)) (Nat.beq i j)) rs) l
noncomputable def okIds (l : List Nat) : List (List Nat) → Bool := List.rec (motive := fun _ => List (List Nat) → Bool) (fun _ => true) (fun i t ih rs => List.rec false (fun r rt _ => Bool.rec false (Bool.rec (ih rt) false (Nat.beq i 0)) (likeF i r t rt)) rs) l
noncomputable def idF (l : List Nat) : Nat := Nat.rec 0 (fun m _ => Nat.succ m) (fnvF l 14695981039346656037)
noncomputable def idsF (l : List (List Nat)) : List Nat := List.rec [] (fun r _ ih => idF r :: ih) l
noncomputable def shortF (l : List (List Nat)) : Bool := List.rec true (fun r _ ih => Bool.rec false ih (Nat.ble r.length 1000)) l
noncomputable def meetsI (args : List EV) (h : EH) : Option (EV × EH) :=
  match args with
  | [x] => Option.rec none (fun rs => Bool.rec none (Bool.rec none (Bool.rec none (Bool.rec none (some (.bool false, h)) (Nat.ble h.next 100000000)) (Nat.ble rs.length 1000)) (shortF rs)) (okIds (idsF rs) rs)) (rowsF h x)
  | _ => none

end Go.Eng

namespace Go.Eng
open Go

noncomputable def hashB : Code := Code.at [true, true, false, true, false, false] (bodyOf Go.Proofs.Tryz.f37)

theorem fstep_lt (a b : Nat) : fstep a b < 18446744073709551616 := by unfold fstep; omega
def fnvL (l : List Nat) (a : Nat) : Nat := l.foldl fstep a
theorem fnvL_nil {a : Nat} : fnvL [] a = a := by unfold fnvL; exact List.foldl_nil
theorem fnvL_cons {b a : Nat} {l : List Nat} : fnvL (b :: l) a = fnvL l (fstep a b) := by unfold fnvL; rw [List.foldl_cons]
theorem wrap_u64 (z : Int) : IntKind.u64.wrap z = z % 18446744073709551616 := by
  unfold IntKind.wrap
  have : IntKind.u64.signed = false := rfl
  have h2 : (2 ^ IntKind.u64.bits : Int) = 18446744073709551616 := by decide
  simp only [this, Bool.false_and, h2]
  exact if_neg Bool.false_ne_true
theorem conv_u64 (b : Nat) (hb : b < 256) : IntKind.u64.wrap (b : Int) = b := by
  rw [wrap_u64]
  omega
theorem xor_u64 (a b : Nat) (ha : a < 18446744073709551616) (hb : b < 256) : IntKind.u64.wrap ((BitVec.ofInt IntKind.u64.bits (a : Int) ^^^ BitVec.ofInt IntKind.u64.bits (b : Int)).toNat : Int) = (Nat.xor a b : Nat) := by
  have h1 : (BitVec.ofInt IntKind.u64.bits (a : Int)) = BitVec.ofNat 64 a := by simp [IntKind.bits]
  have h2 : (BitVec.ofInt IntKind.u64.bits (b : Int)) = BitVec.ofNat 64 b := by simp [IntKind.bits]
  have h3 : (BitVec.ofNat 64 a ^^^ BitVec.ofNat 64 b).toNat = Nat.xor a b := by
    rw [BitVec.toNat_xor, BitVec.toNat_ofNat, BitVec.toNat_ofNat, Nat.mod_eq_of_lt ha, Nat.mod_eq_of_lt (by omega : b < 2 ^ 64)]
    rfl
  have h4 : Nat.xor a b < 18446744073709551616 := by
    rw [← h3]; exact (BitVec.ofNat 64 a ^^^ BitVec.ofNat 64 b).isLt
  show IntKind.u64.wrap (((BitVec.ofInt 64 (a : Int)) ^^^ (BitVec.ofInt 64 (b : Int))).toNat : Int) = _
  rw [show BitVec.ofInt 64 (a : Int) = BitVec.ofNat 64 a from h1, show BitVec.ofInt 64 (b : Int) = BitVec.ofNat 64 b from h2, h3]
  rw [wrap_u64]
  omega
theorem mul_u64 (a b : Nat) : IntKind.u64.wrap (((Nat.xor a b : Nat) : Int) * 1099511628211) = (fstep a b : Nat) := by
  rw [wrap_u64]
  unfold fstep
  omega
theorem add_i64 (a : Nat) (ha : a < 1000000000000000) : IntKind.i64.wrap ((a : Int) + 1) = ((a + 1 : Nat) : Int) := by
  simp [IntKind.wrap, IntKind.bits, IntKind.signed]; omega

end Go.Eng

namespace Go.Eng
open Go

/-- What is asked of the types that the functions of the store of ids use. -/
structure MT (tb : Tab) : Prop where
  u58 : tb.und 63 = some (.slice 5)
  s5 : tb.size 5 = some 1
  u5 : tb.und 5 = some (.int .u8)
  u22 : tb.und 22 = some (.int .u64)

theorem hash_body {tb : Tab} (T : MT tb) {b off n i x acc : Nat} {cap : Option Nat} (fu : Nat) {f : Fr} {h : EH} (hbig : n < 1000000000000000)
   (hn : f.n = 20) (h0 : f.get 0 = some (.slice b off n cap 1)) (h4 : f.get 4 = some (.int .i64 i)) (h3 : f.get 3 = some (.int .u64 acc)) (ha : acc < 18446744073709551616) (hi : i < n) (hx : x < 256)
   (hc : h.cell b (off + i) = some (.int .u8 x)) :
   ∃ f1, exec tb (fu + 10) false hashB f h = .normal f1 ⟨h.objs, h.next + 16⟩ ∧ f1.n = 20 ∧ f1.get 0 = some (.slice b off n cap 1) ∧ f1.get 4 = some (.int .i64 ((i + 1 : Nat) : Int)) ∧
        f1.get 3 = some (.int .u64 ((fstep acc x : Nat) : Int)) := by
  have hcell : ∀ k, EH.cell ⟨h.objs, k⟩ b (off + i) = some (.int .u8 x) := fun k => hc
  have hadd := add_i64 i (by omega)
  have hxor := xor_u64 acc x ha hx
  have hconv := conv_u64 x hx
  have hmul : IntKind.u64.wrap (((Nat.xor acc x : Nat) : Int) * 1099511628211) = (fstep acc x : Nat) := mul_u64 acc x
  refine ⟨?f1, ?run, ?rest⟩
  case run =>
    apply x_seq
    · apply x_seq
      · apply x_region
        iterate 4 (apply r_val; (· simp only [Fr.wth_n, hn, Nat.reduceLT]); (· simp only [op_move, op_len, op_binOp, ev_tmp, h0, h4, Fr.get_wth_same, Fr.get_wth_other, Nat.reduceLT, Nat.reduceEqDiff, ne_eq, not_false_eq_true, Option.map_some, len_slice T.u58, bin_lss, guard_int, cond, Int.ofNat_lt, hi, decide_true] <;> rfl))
        exact r_nil
      · apply x_cond_t
        · simp only [ev_tmp, Fr.get_wth_same, Nat.reduceLT]
        · exact exec_skip
    · apply x_seq
      · apply x_block
        apply x_region
        iterate 9 (apply r_val; (· simp only [Fr.wth_n, hn, Nat.reduceLT]); (· simp only [op_move, op_assign, op_indexAddr, op_load, op_convert, op_binOp, ev_tmp, ev_const, conv_int, h0, h4, h3, Fr.get_wth_same, Fr.get_wth_other, Nat.reduceLT, Nat.reduceEqDiff, ne_eq, not_false_eq_true, Option.map_some, T.u58, T.s5, load_one T.u5 (by rfl), hcell, conv_int_int T.u5 T.u22, bin_xor, bin_mul, guard_int, cond, Int.ofNat_lt, hi, Int.natCast_nonneg, and_self, if_true, Int.toNat_natCast, Nat.mul_one, hxor, hconv, hmul] <;> rfl))
        exact r_nil
      · apply x_region
        iterate 3 (apply r_val; (· simp only [Fr.wth_n, hn, Nat.reduceLT]); (· simp only [op_move, op_assign, op_binOp, ev_tmp, ev_const, conv_int, h0, h4, Fr.get_wth_same, Fr.get_wth_other, Nat.reduceLT, Nat.reduceEqDiff, ne_eq, not_false_eq_true, Option.map_some, bin_add, guard_int, cond, hadd] <;> rfl))
        exact r_nil
  case rest => simp only [Fr.wth_n, hn, h0, Fr.get_wth_same, Fr.get_wth_other, Nat.reduceLT, Nat.reduceEqDiff, ne_eq, not_false_eq_true, and_self]

theorem hash_loop {tb : Tab} (T : MT tb) {b off n : Nat} {cap : Option Nat} (N : Nat) (hbig : n < 1000000000000000) :
   ∀ (rest : List Nat) (i acc : Nat) (f : Fr) (h : EH),
   f.n = 20 → f.get 0 = some (.slice b off n cap 1) → f.get 4 = some (.int .i64 i) → f.get 3 = some (.int .u64 acc) → acc < 18446744073709551616 → i + rest.length = n → (∀ x ∈ rest, x < 256) →
   (∀ j (hj : j < rest.length), h.cell b (off + (i + j)) = some (.int .u8 rest[j])) →
   ∃ f' d, exec tb (N + rest.length + 20) false (.loop hashB) f h = .exit 0 f' ⟨h.objs, h.next + d⟩ ∧ f'.get 3 = some (.int .u64 (fnvL rest acc)) ∧ f'.n = 20 ∧ d ≤ 16 * rest.length + 4 := by
  intro rest
  induction rest with
  | nil =>
    intro i acc f h hn h0 h4 h3 ha hi hlt hc
    have hi' : ¬ i < n := by simp at hi; omega
    rw [List.length_nil, Nat.add_zero]
    refine ⟨?f1, 4, ?run, ?rest⟩
    case run =>
      apply x_loop_exit
      apply x_seq_exit
      apply x_seq
      · apply x_region
        iterate 4 (apply r_val; (· simp only [Fr.wth_n, hn, Nat.reduceLT]); (· simp only [op_move, op_len, op_binOp, ev_tmp, h0, h4, Fr.get_wth_same, Fr.get_wth_other, Nat.reduceLT, Nat.reduceEqDiff, ne_eq, not_false_eq_true, Option.map_some, len_slice T.u58, bin_lss, guard_int, cond, Int.ofNat_lt, hi', decide_false] <;> rfl))
        exact r_nil
      · apply x_cond_f
        · simp only [ev_tmp, Fr.get_wth_same, Nat.reduceLT]
        · exact exec_exit
    case rest => simp only [Fr.get_wth_other, Fr.wth_n, hn, h3, fnvL_nil, Nat.reduceLT, Nat.reduceEqDiff, ne_eq, not_false_eq_true, true_and]; omega
  | cons x rest ih =>
    intro i acc f h hn h0 h4 h3 ha hi hlt hc
    have hi' : i < n := by simp at hi; omega
    have hx : x < 256 := hlt x (by simp)
    obtain ⟨f1, e1, e2, e3, e4, e5⟩ := hash_body T (N + rest.length + 10) hbig hn h0 h4 h3 ha hi' hx (hc 0 (by simp))
    obtain ⟨f2, d2, g1, g2, g3, g4⟩ := ih (i + 1) _ f1 ⟨h.objs, h.next + 16⟩ e2 e3 e4 e5 (fstep_lt _ _) (by simp at hi; omega) (fun y hy => hlt y (by simp [hy])) (fun j hj => by
      have := hc (j + 1) (by simp; omega)
      rw [show off + (i + 1 + j) = off + (i + (j + 1)) from by omega]
      exact this)
    refine ⟨f2, 16 + d2, ?_, by rw [fnvL_cons]; exact g2, g3, by simp; omega⟩
    rw [List.length_cons, show N + (rest.length + 1) + 20 = (N + rest.length + 20) + 1 from by omega]
    rw [show (N + rest.length + 10) + 10 = N + rest.length + 20 from by omega] at e1
    have g1' : exec tb (N + rest.length + 20) false hashB.loop f1 ⟨h.objs, h.next + 16⟩ = .exit 0 f2 ⟨h.objs, h.next + (16 + d2)⟩ := by rw [g1]; simp only [Nat.add_assoc]
    exact x_loop e1 g1'
end Go.Eng

namespace Go.Eng
open Go

theorem call_ret {tb : Tab} {ex : Ex} {g : FuncId} {fn : Func} {c : Code} {args : List EV} {h h' : EH} {f : Fr} {vs : List EV} (hi : tb.intr g = none) (hf : tb.fn g = some fn) (hb : fn.body = some c) (hn : Nat.ble args.length fn.ntmps = true)
    (hx : ex false c (initFr fn.ntmps args) h = .ret f h') (hr : resE tb f h' fn.results.toList = some vs) : callWith tb ex g args h = some (retE vs, h') := by
  unfold callWith
  rw [hi, hf]
  simp only
  rw [hb]
  simp only
  rw [hn, hx]
  simp only [cond]
  rw [hr]

theorem res_one {tb : Tab} {f : Fr} {h : EH} {t : Nat} {v : EV} (hg : f.get t = some v) : resE tb f h [.tmp t] = some [v] := by simp [resE, hg]

/-- A heap that went on: what was is there still. -/
structure Keep (h h' : EH) (B : Nat) : Prop where
  old : ∀ m o, h.get m = some o → h'.get m = some o
  lo : h.next ≤ h'.next
  hi : h'.next ≤ h.next + B
  back : ∀ m o, h'.get m = some o → (∃ o', h.get m = some o') ∨ (h.next ≤ m ∧ m < h'.next)
theorem Keep.trans {h h1 h2 : EH} {A B C : Nat} (a : Keep h h1 A) (b : Keep h1 h2 B) (hc : A + B ≤ C) : Keep h h2 C :=
  ⟨fun m o e => b.old m o (a.old m o e), Nat.le_trans a.lo b.lo, by have := a.hi; have := b.hi; omega, fun m o e => by
    have := a.lo
    have := b.lo
    rcases b.back m o e with ⟨o1, e1⟩ | ⟨h1, h2⟩
    · rcases a.back m o1 e1 with h | ⟨h1, h2⟩
      · exact .inl h
      · exact .inr ⟨h1, by omega⟩
    · exact .inr ⟨by omega, h2⟩⟩
/-- No name is used yet from here on. -/
def Low (h : EH) : Prop := ∀ m o, h.get m = some o → m < h.next
theorem Keep.low {h h' : EH} {B : Nat} (k : Keep h h' B) (hl : Low h) : Low h' := fun m o e => by
  have := k.lo
  rcases k.back m o e with ⟨o1, e1⟩ | ⟨_, h2⟩
  · have := hl m o1 e1; omega
  · exact h2
theorem Keep.up {h : EH} {k B : Nat} (h1 : h.next ≤ k) (h2 : k ≤ h.next + B) : Keep h ⟨h.objs, k⟩ B := ⟨fun m o e => e, h1, h2, fun m o e => .inl ⟨o, e⟩⟩
theorem Keep.cell {h h' : EH} {B n off : Nat} {v : EV} (k : Keep h h' B) (hc : h.cell n off = some v) : h'.cell n off = some v := by
  unfold EH.cell at hc ⊢
  cases hg : h.get n with
  | none => rw [hg] at hc; cases hc
  | some o => rw [k.old n o hg]; rw [hg] at hc; exact hc

structure BytesAt (h : EH) (x : EV) (l : List Nat) : Prop where
  lt : ∀ b ∈ l, b < 256
  at' : ∃ b off cap, x = .slice b off l.length cap 1 ∧ ∀ j (hj : j < l.length), h.cell b (off + j) = some (.int .u8 l[j])

theorem BytesAt.next {h : EH} {x : EV} {l : List Nat} (hb : BytesAt h x l) {k : Nat} : BytesAt ⟨h.objs, k⟩ x l := ⟨hb.lt, hb.at'⟩

theorem BytesAt.keep {h h' : EH} {B : Nat} {x : EV} {l : List Nat} (hb : BytesAt h x l) (k : Keep h h' B) : BytesAt h' x l :=
  let ⟨b, off, cap, e, hc⟩ := hb.at'; ⟨hb.lt, b, off, cap, e, fun j hj => k.cell (hc j hj)⟩

theorem hash_call {tb : Tab} (T : MT tb) (hi : tb.intr 37 = none) (hf : tb.fn 37 = some Go.Proofs.Tryz.f37) (N : Nat) {h : EH} {x : EV} {l : List Nat} (hb : BytesAt h x l) (hl : l.length < 1000000000) :
    ∃ h', callWith tb (exec tb (N + l.length + 40)) 37 [x] h = some (.int .u64 (fnvL l 14695981039346656037), h') ∧ Keep h h' (16 * l.length + 20) := by
  obtain ⟨hlt, b, off, cap, rfl, hc⟩ := hb
  let f0 : Fr := initFr 20 [.slice b off l.length cap 1]
  have hn : f0.n = 20 := rfl
  have h0 : f0.get 0 = some (.slice b off l.length cap 1) := rfl
  let f3 := ((f0.wth 2 (.int .u64 0)).wth 3 (.int .u64 14695981039346656037)).wth 4 (.int .i64 0)
  have l0 : f3.get 0 = some (.slice b off l.length cap 1) := by simp only [f3, Fr.get_wth_other, h0, Nat.reduceLT, Nat.reduceEqDiff, ne_eq, not_false_eq_true]
  have l4 : f3.get 4 = some (.int .i64 ((0 : Nat) : Int)) := Fr.get_wth_same (by omega)
  have l3 : f3.get 3 = some (.int .u64 ((14695981039346656037 : Nat) : Int)) := by
    simp only [f3, Fr.get_wth_other, Fr.get_wth_same, Nat.reduceLT, Nat.reduceEqDiff, ne_eq, not_false_eq_true]
    rfl
  obtain ⟨f', d, g1, g2, g3, g4⟩ := hash_loop T (N + 15) (by omega : l.length < 1000000000000000) l 0 14695981039346656037 f3 ⟨h.objs, h.next + 3⟩ rfl l0 l4 l3 (by omega) (by omega) hlt (fun j hj => by rw [Nat.zero_add]; exact hc j hj)
  rw [show N + 15 + l.length + 20 = N + l.length + 35 from by omega] at g1
  refine ⟨?h', ?all, ?keep⟩
  case all =>
   refine call_ret (vs := [.int .u64 (fnvL l 14695981039346656037)]) hi hf rfl rfl (f := ?f) ?run ?res
   case run =>
    apply x_seq
    · apply x_region
      apply r_val
      · exact (by omega : 2 < 20)
      · simp only [op_assign, ev_const, conv_int, Option.map_some] <;> rfl
      exact r_nil
    apply x_seq
    · apply x_region
      apply r_val
      · exact (by omega : 3 < 20)
      · simp only [op_assign, ev_const, conv_int, Option.map_some] <;> rfl
      exact r_nil
    apply x_seq
    · apply x_seq
      · apply x_region
        apply r_val
        · exact (by omega : 4 < 20)
        · simp only [op_assign, ev_const, conv_int, Option.map_some] <;> rfl
        exact r_nil
      · apply x_block_exit
        exact g1
    apply x_seq
    · apply x_region
      iterate 2 (apply r_val; (· simp only [Fr.wth_n, g3, Nat.reduceLT]); (· simp only [op_move, op_assign, ev_tmp, g2, Fr.get_wth_same, Nat.reduceLT, Option.map_some] <;> rfl))
      exact r_nil
    · exact exec_ret
   case res => exact res_one (Fr.get_wth_same (by omega))
  case keep => exact Keep.up (by omega) (by omega)

abbrev idOf (l : List Nat) : Nat := fnvL l 14695981039346656037

theorem id_call {tb : Tab} (T : MT tb) (hi : tb.intr 37 = none) (hf : tb.fn 37 = some Go.Proofs.Tryz.f37) (hi2 : tb.intr 9 = none) (hf2 : tb.fn 9 = some Go.Proofs.Tryz.f9) (N : Nat) {h : EH} {x : EV} {l : List Nat} (hb : BytesAt h x l) (hl : l.length < 1000000000) (hz : idOf l ≠ 0) :
    ∃ h', callWith tb (exec tb (N + l.length + 60)) 9 [x] h = some (.int .u64 (idOf l), h') ∧ Keep h h' (16 * l.length + 40) := by
  let f0 : Fr := initFr 9 [x]
  have hn : f0.n = 9 := rfl
  have h0 : f0.get 0 = some x := rfl
  obtain ⟨h1, c1, k1⟩ := hash_call T hi hf (N + 17) (h := ⟨h.objs, h.next + 1 + 1 + 1⟩) hb.next hl
  rw [show N + 17 + l.length + 40 = N + l.length + 57 from by omega] at c1
  have hlo : h.next + 1 + 1 + 1 ≤ h1.next := k1.lo
  have hz' : ¬ ((fnvL l 14695981039346656037 : Nat) : Int) = 0 := by
    intro e; exact hz (Int.ofNat_eq_zero.1 e)
  refine ⟨?h', ?all, ?keep⟩
  case all =>
    refine call_ret (vs := [.int .u64 ((idOf l : Nat) : Int)]) hi2 hf2 rfl rfl (f := ?f) ?run ?res
    case run =>
      apply x_seq
      · apply x_region
        apply r_val
        · exact (by omega : 2 < 9)
        · simp only [op_assign, ev_const, conv_int, Option.map_some] <;> rfl
        exact r_nil
      apply x_seq
      · apply x_region
        apply r_val
        · exact (by omega : 4 < 9)
        · simp only [op_move, ev_tmp, Fr.get_wth_other, Nat.reduceLT, Nat.reduceEqDiff, ne_eq, not_false_eq_true, h0, f0, Option.map_some] <;> rfl
        apply r_call
        · exact (by omega : 5 < 9)
        · simp only [op_call, evs_cons, evs_nil, ev_tmp, Fr.get_wth_same, Nat.reduceLT] <;> rfl
        · exact c1
        apply r_val
        · exact (by omega : 3 < 9)
        · simp only [op_assign, ev_tmp, Fr.get_wth_same, Nat.reduceLT, Option.map_some] <;> rfl
        exact r_nil
      apply x_seq
      · apply x_seq
        · apply x_region
          apply r_val
          · exact (by omega : 6 < 9)
          · simp only [op_move, ev_tmp, Fr.get_wth_same, Nat.reduceLT, Option.map_some] <;> rfl
          apply r_val
          · exact (by omega : 7 < 9)
          · simp only [op_binOp, ev_tmp, ev_const, conv_int, Fr.get_wth_same, Nat.reduceLT, bin_eql, guard_int, cond, Option.map_some, hz', decide_false] <;> rfl
          exact r_nil
        · apply x_cond_f
          · simp only [ev_tmp, Fr.get_wth_same, Nat.reduceLT]
          · exact exec_skip
      apply x_seq
      · apply x_region
        apply r_val
        · exact (by omega : 8 < 9)
        · simp only [op_move, ev_tmp, Fr.get_wth_same, Fr.get_wth_other, Nat.reduceLT, Nat.reduceEqDiff, ne_eq, not_false_eq_true, Option.map_some] <;> rfl
        apply r_val
        · exact (by omega : 2 < 9)
        · simp only [op_assign, ev_tmp, Fr.get_wth_same, Nat.reduceLT, Option.map_some] <;> rfl
        exact r_nil
      · exact exec_ret
    case res => exact res_one (Fr.get_wth_same (by omega))
  case keep =>
    have k3 : Keep h ⟨h.objs, h.next + 1 + 1 + 1⟩ 3 := Keep.up (by omega) (by omega)
    exact (k3.trans (k1.trans (Keep.up (B := 10) (by omega) (by omega)) (Nat.le_refl _)) (by omega))
end Go.Eng

namespace Go.Eng
open Go

/-- A slice that reads as a list of one-celled values. -/
inductive ListAt (h : EH) : EV → List EV → Prop where
  | nil : ListAt h .nilSlice []
  | slice (b off : Nat) (cap : Option Nat) (vs : List EV) (hc : ∀ j (hj : j < vs.length), h.cell b (off + j) = some vs[j]) : ListAt h (.slice b off vs.length cap 1) vs
theorem ListAt.keep {h h' : EH} {B : Nat} {v : EV} {vs : List EV} (a : ListAt h v vs) (k : Keep h h' B) : ListAt h' v vs := by
  cases a with
  | nil => exact .nil
  | slice b off cap vs hc => exact .slice b off cap vs fun j hj => k.cell (hc j hj)
theorem ListAt.len {tb : Tab} {h h2 : EH} {t e : TypeId} {v : EV} {vs : List EV} (a : ListAt h v vs) (hu : tb.und t = some (.slice e)) : lenE tb h2 t v = some (.int .i64 ((vs.length : Nat) : Int)) := by
  cases a with
  | nil => exact len_nil hu
  | slice b off cap vs hc => exact len_slice hu

theorem ListAt.inv {h : EH} {v : EV} {vs : List EV} {i : Nat} (a : ListAt h v vs) (hi : i < vs.length) : ∃ b off cap, v = .slice b off vs.length cap 1 ∧ ∀ j (hj : j < vs.length), h.cell b (off + j) = some vs[j] := by
  cases a with
  | nil => simp at hi
  | slice b off cap vs hc => exact ⟨b, off, cap, rfl, hc⟩

noncomputable def FS : Array Field := match undT.get 168 with | some (.struct fs) => fs | _ => #[]
theorem FS0 : ∃ fd, FS[0]? = some fd ∧ fd.offset = 0 ∧ fd.type = 46 := ⟨_, rfl, rfl, rfl⟩
theorem FS1 : ∃ fd, FS[1]? = some fd ∧ fd.offset = 1 ∧ fd.type = 48 := ⟨_, rfl, rfl, rfl⟩

structure MU (tb : Tab) : Prop extends MT tb where
  u154 : tb.und 168 = some (.struct FS)
  s154 : tb.size 168 = some 2
  u45 : tb.und 46 = some (.slice 23)
  u44 : tb.und 48 = some (.slice 63)
  u23 : tb.und 23 = some (.int .u64)
  s45 : tb.size 46 = some 1
  s44 : tb.size 48 = some 1
  s23 : tb.size 23 = some 1
  s58 : tb.size 63 = some 1

theorem fa0 {tb : Tab} (T : MU tb) {h : EH} {nm : Nat} {f : Fr} {dst : Option Tmp} {x : Operand} {ty : TypeId} {pos : String} {af : Array Edge} {n : Nat} (hx : ev f x = some (.ptr n 0)) :
    opE tb h nm f ⟨dst, .fieldAddr 168 x 0, ty, pos, af, none⟩ = some (.val (.ptr n 0) h) := by
  obtain ⟨fd, h1, h2, h3⟩ := FS0
  rw [op_fieldAddr, T.u154, hx]
  simp only [h1, h3, T.s45, h2]
  rfl
theorem fa1 {tb : Tab} (T : MU tb) {h : EH} {nm : Nat} {f : Fr} {dst : Option Tmp} {x : Operand} {ty : TypeId} {pos : String} {af : Array Edge} {n : Nat} (hx : ev f x = some (.ptr n 0)) :
    opE tb h nm f ⟨dst, .fieldAddr 168 x 1, ty, pos, af, none⟩ = some (.val (.ptr n 1) h) := by
  obtain ⟨fd, h1, h2, h3⟩ := FS1
  rw [op_fieldAddr, T.u154, hx]
  simp only [h1, h3, T.s44, h2]
  rfl

noncomputable def findB : Code := Code.at [true, false, true, false, false] (bodyOf Go.Proofs.Tryz.f131)

theorem find_body {tb : Tab} (T : MU tb) {p b off n i x y : Nat} {cap : Option Nat} (fu : Nat) {f : Fr} {h : EH} (hbig : n < 1000000000000000)
   (hn : f.n = 21) (h2 : f.get 2 = some (.ptr p 0)) (h1 : f.get 1 = some (.int .u64 x)) (h5 : f.get 5 = some (.int .i64 i)) (hi : i < n) (hp : h.cell p 0 = some (.slice b off n cap 1))
   (hc : h.cell b (off + i) = some (.int .u64 y)) (hne : y ≠ x) :
   ∃ f1, exec tb (fu + 10) false findB f h = .normal f1 ⟨h.objs, h.next + 15⟩ ∧ f1.n = 21 ∧ f1.get 2 = some (.ptr p 0) ∧ f1.get 1 = some (.int .u64 x) ∧ f1.get 5 = some (.int .i64 ((i + 1 : Nat) : Int)) := by
  have hcell : ∀ k, EH.cell ⟨h.objs, k⟩ b (off + i) = some (.int .u64 y) := fun k => hc
  have hpc : ∀ k, EH.cell ⟨h.objs, k⟩ p 0 = some (.slice b off n cap 1) := fun k => hp
  have hadd := add_i64 i (by omega)
  have hne' : ¬ (y : Int) = (x : Int) := fun e => hne (by omega)
  refine ⟨?f1, ?run, ?rest⟩
  case run =>
    apply x_seq
    · apply x_seq
      · apply x_region
        apply r_val
        · simp only [Fr.wth_n, hn, Nat.reduceLT]
        · simp only [op_move, ev_tmp, h5, Option.map_some] <;> rfl
        apply r_val
        · simp only [Fr.wth_n, hn, Nat.reduceLT]
        · apply fa0 T
          simp only [ev_tmp, h2, Fr.get_wth_other, Nat.reduceLT, Nat.reduceEqDiff, ne_eq, not_false_eq_true] <;> rfl
        apply r_val
        · simp only [Fr.wth_n, hn, Nat.reduceLT]
        · simp only [op_load, ev_tmp, Fr.get_wth_same, Nat.reduceLT, load_one T.u45 (by rfl), hpc, Option.map_some] <;> rfl
        apply r_val
        · simp only [Fr.wth_n, hn, Nat.reduceLT]
        · simp only [op_len, ev_tmp, Fr.get_wth_same, Nat.reduceLT, len_slice T.u45, Option.map_some] <;> rfl
        apply r_val
        · simp only [Fr.wth_n, hn, Nat.reduceLT]
        · simp only [op_binOp, ev_tmp, Fr.get_wth_same, Fr.get_wth_other, Nat.reduceLT, Nat.reduceEqDiff, ne_eq, not_false_eq_true, Option.map_some, bin_lss, guard_int, cond, Int.ofNat_lt, hi, decide_true] <;> rfl
        exact r_nil
      · apply x_cond_t
        · simp only [ev_tmp, Fr.get_wth_same, Nat.reduceLT]
        · exact exec_skip
    · apply x_seq
      · apply x_block
        apply x_seq
        · apply x_region
          apply r_val
          · simp only [Fr.wth_n, hn, Nat.reduceLT]
          · apply fa0 T
            simp only [ev_tmp, h2, Fr.get_wth_other, Nat.reduceLT, Nat.reduceEqDiff, ne_eq, not_false_eq_true] <;> rfl
          apply r_val
          · simp only [Fr.wth_n, hn, Nat.reduceLT]
          · simp only [op_load, ev_tmp, Fr.get_wth_same, Nat.reduceLT, load_one T.u45 (by rfl), hpc, Option.map_some] <;> rfl
          iterate 5 (apply r_val; (· simp only [Fr.wth_n, hn, Nat.reduceLT]); (· simp only [op_move, op_indexAddr, op_load, op_binOp, ev_tmp, h1, h5, Fr.get_wth_same, Fr.get_wth_other, Nat.reduceLT, Nat.reduceEqDiff, ne_eq, not_false_eq_true, Option.map_some, T.u45, T.s23, load_one T.u23 (by rfl), hcell, bin_eql, guard_int, cond, Int.ofNat_lt, hi, Int.natCast_nonneg, and_self, if_true, Int.toNat_natCast, Nat.mul_one, hne', decide_false] <;> rfl))
          exact r_nil
        · apply x_cond_f
          · simp only [ev_tmp, Fr.get_wth_same, Nat.reduceLT]
          · exact exec_skip
      · apply x_region
        iterate 3 (apply r_val; (· simp only [Fr.wth_n, hn, Nat.reduceLT]); (· simp only [op_move, op_assign, op_binOp, ev_tmp, ev_const, conv_int, h5, Fr.get_wth_same, Fr.get_wth_other, Nat.reduceLT, Nat.reduceEqDiff, ne_eq, not_false_eq_true, Option.map_some, bin_add, guard_int, cond, hadd] <;> rfl))
        exact r_nil
  case rest => simp only [Fr.wth_n, hn, h2, h1, Fr.get_wth_same, Fr.get_wth_other, Nat.reduceLT, Nat.reduceEqDiff, ne_eq, not_false_eq_true, and_self]

theorem find_head_end {tb : Tab} (T : MU tb) {p i x : Nat} {ids : EV} {vs : List EV} (fu : Nat) {f : Fr} {h : EH}
   (hn : f.n = 21) (h2 : f.get 2 = some (.ptr p 0)) (h5 : f.get 5 = some (.int .i64 i)) (hi : ¬ i < vs.length) (hp : h.cell p 0 = some ids) (hl : ListAt h ids vs) :
   ∃ f1, exec tb (fu + 10) false (.loop findB) f h = .exit 0 f1 ⟨h.objs, h.next + 5⟩ ∧ f1.n = 21 := by
  have hpc : ∀ k, EH.cell ⟨h.objs, k⟩ p 0 = some ids := fun k => hp
  have hlen : ∀ k, lenE tb ⟨h.objs, k⟩ 46 ids = some (.int .i64 ((vs.length : Nat) : Int)) := fun k => hl.len T.u45
  refine ⟨?f1, ?run, ?rest⟩
  case run =>
    apply x_loop_exit
    apply x_seq_exit
    apply x_seq
    · apply x_region
      apply r_val
      · simp only [Fr.wth_n, hn, Nat.reduceLT]
      · simp only [op_move, ev_tmp, h5, Option.map_some] <;> rfl
      apply r_val
      · simp only [Fr.wth_n, hn, Nat.reduceLT]
      · apply fa0 T
        simp only [ev_tmp, h2, Fr.get_wth_other, Nat.reduceLT, Nat.reduceEqDiff, ne_eq, not_false_eq_true] <;> rfl
      apply r_val
      · simp only [Fr.wth_n, hn, Nat.reduceLT]
      · simp only [op_load, ev_tmp, Fr.get_wth_same, Nat.reduceLT, load_one T.u45 (by rfl), hpc, Option.map_some] <;> rfl
      apply r_val
      · simp only [Fr.wth_n, hn, Nat.reduceLT]
      · simp only [op_len, ev_tmp, Fr.get_wth_same, Nat.reduceLT, hlen, Option.map_some] <;> rfl
      apply r_val
      · simp only [Fr.wth_n, hn, Nat.reduceLT]
      · simp only [op_binOp, ev_tmp, Fr.get_wth_same, Fr.get_wth_other, Nat.reduceLT, Nat.reduceEqDiff, ne_eq, not_false_eq_true, Option.map_some, bin_lss, guard_int, cond, Int.ofNat_lt, hi, decide_false] <;> rfl
      exact r_nil
    · apply x_cond_f
      · simp only [ev_tmp, Fr.get_wth_same, Nat.reduceLT]
      · exact exec_exit
  case rest => simp only [Fr.wth_n, hn]

theorem find_loop {tb : Tab} (T : MU tb) {p x : Nat} {ids : EV} {l : List Nat} (N : Nat) (hbig : l.length < 1000000000000000) (hne : ∀ y ∈ l, y ≠ x) :
   ∀ (k i : Nat) (f : Fr) (h : EH), f.n = 21 → f.get 2 = some (.ptr p 0) → f.get 1 = some (.int .u64 x) → f.get 5 = some (.int .i64 i) → i + k = l.length → h.cell p 0 = some ids → ListAt h ids (l.map fun y => .int .u64 ((y : Nat) : Int)) →
   ∃ f' h', exec tb (N + k + 20) false (.loop findB) f h = .exit 0 f' h' ∧ f'.n = 21 ∧ h'.objs = h.objs ∧ h.next ≤ h'.next ∧ h'.next ≤ h.next + 15 * k + 5 := by
  intro k
  induction k with
  | zero =>
    intro i f h hn h2 h1 h5 hi hp hl
    obtain ⟨f1, e1, e2⟩ := find_head_end T (N + 10) hn h2 h5 (by simp; omega) hp hl (x := x)
    exact ⟨f1, _, e1, e2, rfl, by simp only; omega, by simp only; omega⟩
  | succ k ih =>
    intro i f h hn h2 h1 h5 hi hp hl
    have hlt : i < l.length := by omega
    obtain ⟨b, off, cap, rfl, hc⟩ := hl.inv (i := i) (by simpa using hlt)
    have hci := hc i (by simpa using hlt)
    rw [List.getElem_map] at hci
    obtain ⟨f1, e1, e2, e3, e4, e5⟩ := find_body T (N + k + 10) (by simpa using hbig) hn h2 h1 h5 (by simpa using hlt) hp hci (hne _ (List.getElem_mem hlt))
    obtain ⟨f2, h2', g1, g2, g3, g4, g5⟩ := ih (i + 1) f1 ⟨h.objs, h.next + 15⟩ e2 e3 e4 e5 (by omega) hp (hl.keep (B := 15) (Keep.up (by omega) (by omega)))
    rw [show N + k + 10 + 10 = N + k + 20 from by omega] at e1
    refine ⟨f2, h2', ?_, g2, g3, by simp only at g4; omega, by simp only at g5; omega⟩
    rw [show N + (k + 1) + 20 = (N + k + 20) + 1 from by omega]
    exact x_loop e1 g1

theorem find_call {tb : Tab} (T : MU tb) (hi : tb.intr 131 = none) (hf : tb.fn 131 = some Go.Proofs.Tryz.f131) (N : Nat) {h : EH} {ids rows : EV} {l : List Nat} {x : Nat} (hlow : Low h) (hcap : h.next < 100000000000)
    (hl : ListAt h ids (l.map fun y => .int .u64 ((y : Nat) : Int))) (ho : ids.one = true ∧ rows.one = true) (hne : ∀ y ∈ l, y ≠ x) (hlen : l.length < 1000000000) :
    ∃ h', callWith tb (exec tb (N + l.length + 60)) 131 [.agg [ids, rows], .int .u64 x] h = some (.int .i64 (-1), h') ∧ Keep h h' (15 * l.length + 20) := by
  let f0 : Fr := initFr 21 [.agg [ids, rows], .int .u64 x]
  have h0 : f0.get 0 = some (.agg [ids, rows]) := rfl
  have h1 : f0.get 1 = some (.int .u64 x) := rfl
  let hp : EH := EH.set ⟨h.objs, h.next + 1⟩ h.next (.cells (rowOf [ids, rows]) 168 true)
  have hpg : hp.get h.next = some (.cells (rowOf [ids, rows]) 168 true) := EH.get_set_same (h := ⟨h.objs, h.next + 1⟩) (by omega)
  have hpo : ∀ m o, h.get m = some o → hp.get m = some o := fun m o e => (EH.get_set_other (h := ⟨h.objs, h.next + 1⟩) (by omega) (by have := hlow m o e; omega)).trans e
  have hpb : ∀ m o, hp.get m = some o → (∃ o', h.get m = some o') ∨ m = h.next := fun m o e => by
    rcases Go.Eng.T.get_set _ _ _ _ _ _ e with ⟨h1, _⟩ | ⟨_, h2⟩
    · exact .inr h1
    · exact .inl ⟨o, h2⟩
  have hpk : Keep h ⟨hp.objs, h.next + 3⟩ 3 := ⟨hpo, by show h.next ≤ h.next + 3; omega, Nat.le_refl _, fun m o e => (hpb m o e).imp id fun h1 => ⟨by omega, by show m < h.next + 3; omega⟩⟩
  have hpc : hp.cell h.next 0 = some ids := by unfold EH.cell; rw [hpg]; rfl
  let f5 := ((f0.wth 2 (.ptr h.next 0)).wth 4 (.int .i64 0)).wth 5 (.int .i64 0)
  obtain ⟨f', h', g1, g2, g3, g4, g5⟩ := find_loop T (N + 36) (by omega : l.length < 1000000000000000) hne l.length 0 f5 ⟨hp.objs, h.next + 3⟩ rfl
    (by simp only [f5, Fr.get_wth_same, Fr.get_wth_other, Nat.reduceLT, Nat.reduceEqDiff, ne_eq, not_false_eq_true])
    (by simp only [f5, Fr.get_wth_same, Fr.get_wth_other, h1, Nat.reduceLT, Nat.reduceEqDiff, ne_eq, not_false_eq_true]) (Fr.get_wth_same (by omega)) (by omega) hpc
    (hl.keep (h' := ⟨hp.objs, h.next + 3⟩) (B := 3) hpk)
  rw [show N + 36 + l.length + 20 = N + l.length + 56 from by omega] at g1
  simp only at g4 g5
  refine ⟨?h', ?all, ?keep⟩
  case all =>
    refine call_ret (vs := [.int .i64 (-1)]) hi hf rfl rfl (f := ?f) ?run ?res
    case run =>
      apply x_seq
      · apply x_region
        apply r_val
        · exact (by omega : 2 < 21)
        · rw [op_box, show ev (initFr Go.Proofs.Tryz.f131.ntmps [.agg [ids, rows], .int .u64 x]) (.tmp 0) = some (.agg [ids, rows]) from rfl]
          simp only [EV.cells, List.all_cons, List.all_nil, ho.1, ho.2, Bool.and_self, T.s154, List.length_cons, List.length_nil, Nat.zero_add, Nat.reduceAdd, decide_true, cond] <;> rfl
        apply r_val
        · exact (by omega : 4 < 21)
        · simp only [op_assign, ev_const, conv_int, Option.map_some] <;> rfl
        exact r_nil
      apply x_seq
      · apply x_seq
        · apply x_region
          apply r_val
          · exact (by omega : 5 < 21)
          · simp only [op_assign, ev_const, conv_int, Option.map_some] <;> rfl
          exact r_nil
        · apply x_block_exit
          exact g1
      apply x_seq
      · apply x_region
        apply r_val
        · simp only [g2, Nat.reduceLT]
        · simp only [op_assign, ev_const, conv_int, Option.map_some] <;> rfl
        exact r_nil
      · exact exec_ret
    case res => exact res_one (Fr.get_wth_same (by omega))
  case keep =>
    exact ⟨fun m o e => by show Go.Eng.T.get h'.objs m = _; rw [g3]; exact hpo m o e, by simp only; omega, by simp only; omega, fun m o e => by
      have e' : Go.Eng.T.get h'.objs m = some o := e
      rw [g3] at e'
      exact (hpb m o e').imp id fun h1 => ⟨by omega, by simp only; omega⟩⟩
end Go.Eng

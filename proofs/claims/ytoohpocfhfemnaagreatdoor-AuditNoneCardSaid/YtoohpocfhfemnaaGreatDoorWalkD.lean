/- A part of the proof of AuditNone: the runs of the document's example and of the law's body, and facts of the row. Conditions: none. -/
import Derived.Test.YtoohpocfhfemnaaGreatDoorWalkC
import Derived.Shelf.SlLaysN
import Derived.Shelf.RegionOpenPlain
import Derived.Lib.Walk
import Derived.Lib.SliceRun
namespace Go.Proofs
open Go.Shelf Go.RowKit Go.Lib

set_option maxRecDepth 1000000 in
set_option maxHeartbeats 4000000 in
theorem clone_at (a : Addr) (n c : Nat) (xs : List Int) (w : World) (hx : xs.length = n) (hbig : n ≤ 140737488355328) (hc : ∀ i, i < n → w.cell? (a.add i) = some (.int .u8 (xs.getD i 0))) :
    Calls Tryz.prog 26 #[.slice (some a) n c] w fun e w' => ∃ v', e = .returned v' ∧ w'.ownsRow w.heap.size 5 1 v' n (xs.map (Value.int .u8)) ∧ v' ≠ .slice none 0 0 ∧ Below w.heap.size w w' := by
  have t22 : Tryz.prog.underlying 22 = some (.slice 5) := by kernel_rfl
  have i5 : (Tryz.prog.info? 5).map (fun i => (i.zero, i.size, i.bytes)) = some (some (Value.int IntKind.u8 0), 1, 1) := by kernel_rfl
  obtain ⟨i0, hi, hz0, hz1, hz2⟩ := info_parts i5
  have q22 : ∀ (w : World) (a : Option Addr) (n c n' c' : Nat), (binOp .eql 22 (.slice a n c) (.slice none n' c')).run Tryz.prog w = .ok (.bool a.isNone) w := fun w a n c n' c' => Lib.run_eql_slice_nil w _ _ a n c n' c' t22
  have u22 : ∀ w, Sem.run Tryz.prog (underlying 22) w = .ok (TypeDesc.slice 5) w := run_underlying t22
  have z5 : ∀ w, Sem.run Tryz.prog (Go.sizeOf 5) w = .ok 1 w := fun w => by simp [Go.sizeOf, typeInfo, hi, hz1]
  have A : Aside (∀ i, i < n → w.cell? (a.add i) = some (.int .u8 (xs.getD i 0))) := hc
  clear hc
  go_enter Tryz.func26, Tryz.ntmps26
  go_wp2_with (at_builtin; refine wpList_append_own _ rfl _ _ 22 rfl w.heap.size 5 i0 (.int .u8 0) 1 1 t22 hi hz0 hz1 hz2 rfl (by decide) _ _ _ rfl (World.ownsRow_made w #[] 0 (Nat.le_refl _) (Nat.zero_le _) rfl) a n c (xs.map (Value.int .u8)) rfl ?qc1 ?qc2 ?qc3 ?qc4 ?qc5 ?qc6 ?_)
  case qc1 => simp; omega
  case qc2 =>
    intro j u hj
    have hjn : j < n := by
      have := (List.getElem?_eq_some_iff.1 hj).1
      simp at this
      omega
    refine Lib.cell?_alloc_some _ ?_
    rw [A.out j hjn]
    have e : (xs.map (Value.int .u8))[j]? = some (Value.int .u8 (xs.getD j 0)) := by simp [List.getD, List.getElem?_eq_getElem (show j < xs.length by omega)]
    rw [e] at hj
    exact hj
  case qc3 => intro u hu; obtain ⟨x, _, rfl⟩ := List.mem_map.1 hu; rfl
  case qc4 => unfold maxLen; omega
  case qc5 => omega
  case qc6 => simp
  intro v' w1 hown hgrow hnil
  go_wp2
  go_ret
  refine ⟨v', rfl, by simpa using hown, ?_, ?_⟩
  · first | exact hnil | (intro e; exact absurd (hnil.1 e).1 (by simp))
  · exact ((Below.refl _ w).alloc (Nat.le_refl _) _).grown hgrow (by simp) (by intro k hk; simp [Value.ownBlock] at hk; omega)

set_option maxRecDepth 1000000 in
theorem clone_nil (n c : Nat) (w : World) : Calls Tryz.prog 26 #[.slice none n c] w fun e w' => e = .returned (.slice none 0 0) ∧ w' = w := by
  have t22 : Tryz.prog.underlying 22 = some (.slice 5) := by kernel_rfl
  have q22 : ∀ (w : World) (a : Option Addr) (n c n' c' : Nat), (binOp .eql 22 (.slice a n c) (.slice none n' c')).run Tryz.prog w = .ok (.bool a.isNone) w := fun w a n c n' c' => Lib.run_eql_slice_nil w _ _ a n c n' c' t22
  go_enter Tryz.func26, Tryz.ntmps26
  go_wp2
  go_ret
  exact ⟨rfl, rfl⟩
end Go.Proofs

namespace Go.Proofs
open Go.Shelf Go.RowKit Go.Lib
variable {I : Nat → Prop}

/-- Bytes of one's own do not lie in an elder block. -/
theorem off_of_own {w : World} {B r : Nat} {v : Value} {l : List UInt8} (h : w.ownsRow B 5 1 v l.length (l.map fun x => Value.int .u8 (x.toNat : Int))) (hr : r < B) (hI : ∀ k, B ≤ k → k < w.heap.size → I k) : BytesOff w r I v l := by
  obtain ⟨h1, h2⟩ := h
  rcases h2 with ⟨rfl, hn⟩ | ⟨g, cap, cur, rfl, hg, hh, hc, hm, hs, ht⟩
  · exact .inr ⟨rfl, List.eq_nil_of_length_eq_zero hn⟩
  · refine .inl ⟨g, 0, cap, rfl, hc, hm, ⟨hI _ hg (Array.getElem?_eq_some_iff.1 hh).1, (Array.getElem?_eq_some_iff.1 hh).1⟩, by omega, fun i x hx => ?_⟩
    have hown : w.ownsRow B 5 1 (.slice (some ⟨g, 0, none⟩) l.length cap) l.length (l.map fun x => Value.int .u8 (x.toNat : Int)) := ⟨h1, .inr ⟨g, cap, cur, rfl, hg, hh, hc, hm, hs, ht⟩⟩
    have hi : i < l.length := (List.getElem?_eq_some_iff.1 hx).1
    have := hown.cellAt i (by omega)
    rw [Nat.zero_add, this, List.getElem?_map, hx]
    rfl

theorem BytesOff.imp {w : World} {r : Nat} {v : Value} {l : List UInt8} {J : Nat → Prop} (h : BytesOff w r I v l) (hIJ : ∀ k, I k → J k) : BytesOff w r J v l := by
  rcases h with ⟨b, o, c, h1, h2, h5, h3, h6, h4⟩ | h
  · exact .inl ⟨b, o, c, h1, h2, h5, ⟨hIJ _ h3.1, h3.2⟩, h6, h4⟩
  · exact .inr h
theorem Rd.imp {w : World} {r : Nat} {l : List UInt8} {e : Int} {J : Nat → Prop} (h : Rd w r I l e) (hIJ : ∀ k, I k → J k) : Rd w r J l e := by
  obtain ⟨v, h1, h2⟩ := h
  exact ⟨v, h1, h2.imp hIJ⟩

/-- slices.Clone of bytes: the same bytes, in memory of its own. -/
theorem clone_any (r r' : Nat) (l : List UInt8) (v : Value) (w : World) (h : BytesOff w r I v l) (hr : r' < w.heap.size) (hl : l.length ≤ 1000000000) : Calls Tryz.prog 26 #[v] w fun e w' => ∃ v', e = .returned v' ∧ BytesOff w' r' (fun k => w.heap.size ≤ k ∧ k < w'.heap.size) v' l ∧ Below w.heap.size w w' := by
  rcases h with ⟨b, o, c, rfl, hc, hcl, hb, hbr, hcell⟩ | ⟨rfl, rfl⟩
  · refine (clone_at ⟨b, o, none⟩ l.length c (l.map fun x => (x.toNat : Int)) w (by simp) (by omega) (fun i hi => ?_)).mono fun e w' hq => ?_
    · rw [Addr.add_lit]
      rw [hcell i l[i] (List.getElem?_eq_getElem hi)]
      simp [List.getD, List.getElem?_eq_getElem hi]
    · obtain ⟨v', rfl, hown, _, hbl⟩ := hq
      refine ⟨v', rfl, off_of_own (B := w.heap.size) ?_ hr (fun k h1 h2 => ⟨h1, h2⟩), hbl⟩
      simpa [List.map_map, Function.comp_def] using hown
  · refine (clone_nil 0 0 w).mono fun e w' hq => ?_
    obtain ⟨rfl, rfl⟩ := hq
    exact ⟨_, rfl, .inr ⟨rfl, rfl⟩, Below.refl _ _⟩
end Go.Proofs

namespace Go.Proofs
open Go.Shelf Go.RowKit Go.Lib
variable {I : Nat → Prop}

theorem BytesOff.alloc {w : World} {r : Nat} {v : Value} {l : List UInt8} (h : BytesOff w r I v l) (o : Obj) : BytesOff (w.alloc o) w.heap.size I v l := by
  rcases h with ⟨b, of, c, h1, h2, h5, h3, h6, h4⟩ | h
  · exact .inl ⟨b, of, c, h1, h2, h5, ⟨h3.1, by rw [World.size_alloc]; omega⟩, by omega, fun i x hx => Lib.cell?_alloc_some _ (h4 i x hx)⟩
  · exact .inr h

set_option maxRecDepth 1000000 in
set_option maxHeartbeats 4000000 in
theorem read_any (r : Nat) (l : List UInt8) (v : Value) (w : World) (h : BytesOff w r I v l) (h0 : 0 < w.heap.size) (hl : l.length ≤ 1000000000) : Calls Tryz.prog 45 #[v] w fun e w' => ∃ q, e = .returned (.pointer (some ⟨q, 0, none⟩)) ∧ w.heap.size ≤ q ∧ q < w'.heap.size ∧ Rd w' q (fun k => w.heap.size ≤ k ∧ k < w'.heap.size) l 0 ∧ Below w.heap.size w w' := by
  go_enter Tryz.func45, Tryz.ntmps45
  go_wp2_with (fail)
  refine (clone_any r 0 l v w h h0 hl).mono fun e w' hq => ?_
  obtain ⟨v', rfl, hb, hbl⟩ := hq
  obtain ⟨a, c, rfl⟩ := hb.len
  go_wp2
  go_ret
  refine ⟨w'.heap.size, rfl, hbl.size, by simp, ⟨_, ⟨by simp, by simp, by simp, World.frozen?_alloc_at _ _ _ _ rfl, World.frozen?_alloc_at _ _ _ _ rfl⟩, (hb.alloc _).imp fun k hk => ⟨hk.1, by simp; omega⟩⟩, hbl.alloc hbl.size _⟩
end Go.Proofs

namespace Go.Proofs
open Go.Shelf Go.RowKit Go.Lib
variable {I S : Nat → Prop}

/-- Of what was there only blocks of S have turned. -/
structure Turn (S : Nat → Prop) (w w' : World) : Prop where
  os : w'.os = w.os
  tape : w'.tape = w.tape
  output : w'.output = w.output
  size : w.heap.size ≤ w'.heap.size
  block : ∀ k, k < w.heap.size → ¬ S k → w'.heap[k]? = w.heap[k]?

theorem Turn.refl (S : Nat → Prop) (w : World) : Turn S w w := ⟨rfl, rfl, rfl, Nat.le_refl _, fun _ _ _ => rfl⟩
theorem Turn.trans {a b c : World} (h : Turn S a b) (k : Turn S b c) : Turn S a c :=
  ⟨k.os.trans h.os, k.tape.trans h.tape, k.output.trans h.output, Nat.le_trans h.size k.size, fun i hi hs => (k.block i (Nat.lt_of_lt_of_le hi h.size) hs).trans (h.block i hi hs)⟩
theorem Turn.mono {S' : Nat → Prop} {w w' : World} (h : Turn S w w') (hS : ∀ k, k < w.heap.size → S k → S' k) : Turn S' w w' := ⟨h.os, h.tape, h.output, h.size, fun k hk hs => h.block k hk (fun x => hs (hS k hk x))⟩
theorem Turn.setCell {a w : World} (h : Turn S a w) {p : Addr} (hp : S p.block) (u : Value) : Turn S a (w.setCell p u) :=
  h.trans ⟨rfl, rfl, rfl, by simp [World.setCell], fun k _ hs => Below.heap_setCell _ _ _ _ (fun e => hs (e ▸ hp))⟩
theorem Turn.alloc {a w : World} (h : Turn S a w) (o : Obj) : Turn S a (w.alloc o) :=
  h.trans ⟨rfl, rfl, rfl, by simp, fun k hk _ => Below.heap_alloc _ _ _ hk⟩
theorem Turn.drew {a w : World} (h : Turn S a w) : Turn S a w.drew := ⟨h.os, h.tape, h.output, h.size, h.block⟩
theorem Turn.grown {a w w' : World} {row : Option Nat} (h : Turn S a w) (hg : w.grownBy w' row) (hr : ∀ k, row = some k → S k) : Turn S a w' :=
  h.trans ⟨hg.os, hg.tape, hg.output, hg.size, fun k hk hs => hg.block k hk (fun e => hs (hr k e.symm))⟩
theorem Turn.only {r : Nat} {w w' : World} (h : Only r w w') (hr : S r) : Turn S w w' := by
  induction h with
  | refl => exact .refl _ _
  | set _ k x ih => exact ih.setCell (p := ⟨r, k, none⟩) hr x
theorem Turn.below {B : Nat} {w w' : World} (h : Below B w w') (hB : ∀ k, B ≤ k → k < w.heap.size → S k) : Turn S w w' :=
  ⟨h.os, h.tape, h.output, h.size, fun k hk hs => h.block k (Nat.lt_of_not_le fun hle => hs (hB k hle hk))⟩
theorem Turn.toBelow {B : Nat} {w w' : World} (h : Turn S w w') (hB : B ≤ w.heap.size) (hS : ∀ k, k < w.heap.size → S k → B ≤ k) : Below B w w' :=
  ⟨h.os, h.tape, h.output, h.size, fun k hk => h.block k (by omega) (fun hs => by have := hS k (by omega) hs; omega)⟩
theorem Turn.cell {w w' : World} (h : Turn S w w') {p : Addr} {v : Value} (hc : w.cell? p = some v) (hs : ¬ S p.block) : w'.cell? p = some v :=
  (World.cell?_of_block (h.block p.block (World.block_lt_of_cell? w p hc) hs)).trans hc
theorem Turn.frozen {w w' : World} (h : Turn S w w') {p : Addr} (hp : p.block < w.heap.size) (hs : ¬ S p.block) : w'.frozen? p = w.frozen? p :=
  World.frozen?_of_block (h.block p.block hp hs)
theorem Turn.owns {w w' : World} (h : Turn S w w') {B : Nat} {e : TypeId} {size : Nat} {v : Value} {n : Nat} {xs : List Value} (ho : w.ownsRow B e size v n xs) (hs : ∀ k, v.ownBlock = some k → ¬ S k) : w'.ownsRow B e size v n xs := by
  obtain ⟨h1, h2⟩ := ho
  refine ⟨h1, ?_⟩
  rcases h2 with h2 | ⟨g, cap, cur, rfl, hb, hg, hr⟩
  · exact .inl h2
  · exact .inr ⟨g, cap, cur, rfl, hb, (h.block g (Array.getElem?_eq_some_iff.1 hg).1 (hs g rfl)).trans hg, hr⟩
theorem Turn.bytes {w w' : World} (h : Turn S w w') {r : Nat} {v : Value} {l : List UInt8} (ho : BytesOff w r I v l) (hs : ∀ k, I k → k < w.heap.size → ¬ S k) : BytesOff w' r I v l := by
  rcases ho with ⟨b, o, c, h1, h2, h5, h3, h6, h4⟩ | ho
  · exact .inl ⟨b, o, c, h1, h2, h5, ⟨h3.1, Nat.lt_of_lt_of_le h3.2 h.size⟩, h6, fun i x hx => h.cell (h4 i x hx) (hs b h3.1 h3.2)⟩
  · exact .inr ho
theorem RdAt.lt {w : World} {r : Nat} {v : Value} {e : Int} (h : RdAt w r v e) : r < w.heap.size := World.block_lt_of_cell? w ⟨r, 0, none⟩ h.h0
theorem Rd.lt {w : World} {r : Nat} {l : List UInt8} {e : Int} (h : Rd w r I l e) : r < w.heap.size := by
  obtain ⟨v, h1, _⟩ := h
  exact h1.lt
theorem Turn.rd {w w' : World} (h : Turn S w w') {r : Nat} {l : List UInt8} {e : Int} (ho : Rd w r I l e) (hr : ¬ S r) (hs : ∀ k, I k → k < w.heap.size → ¬ S k) : Rd w' r I l e := by
  obtain ⟨v, h1, h2⟩ := ho
  have hlt := h1.lt
  exact ⟨v, ⟨h.cell h1.h0 hr, h.cell h1.h1 hr, h.cell h1.h2 hr, (h.frozen hlt hr).trans h1.f1, (h.frozen hlt hr).trans h1.f2⟩, h.bytes h2 hs⟩
theorem Rd.below {w w' : World} {B r : Nat} {l : List UInt8} {e : Int} (ho : Rd w r I l e) (h : Below B w w') (hr : r < B) (hI : ∀ k, I k → k < w.heap.size → k < B) : Rd w' r I l e :=
  (Turn.below (S := fun k => B ≤ k) h (fun _ h _ => h)).rd ho (by omega) (fun k hk hlt => by have := hI k hk hlt; omega)
theorem Only.under {r B : Nat} {w w' : World} (h : Only r w w') (hr : B ≤ r) : Below B w w' := by
  induction h with
  | refl => exact .refl _ _
  | set _ k x ih => exact ih.setCell (p := ⟨r, k, none⟩) hr x

set_option maxRecDepth 1000000 in
set_option maxHeartbeats 4000000 in
/-- All that is left, as bytes of one's own. -/
theorem raw_all (r : Nat) (l : List UInt8) (w : World) (h : Rd w r I l 0) (hI : ∀ k, I k → k < w.heap.size) (hl : l.length ≤ 1000000000) : Calls Tryz.prog 57 #[.pointer (some ⟨r, 0, none⟩), .int .i64 l.length] w fun x w' => Rd w' r I [] 0 ∧ Turn (fun k => k = r) w w' ∧ ∃ a c, x = .returned (.slice a l.length c) := by
  have hh := h
  obtain ⟨v, ⟨h0, h1, h2, f1, f2⟩, hv⟩ := h
  have hrd : RdAt w r v 0 := ⟨h0, h1, h2, f1, f2⟩
  have hlt := hrd.lt
  obtain ⟨a, c, rfl⟩ := hv.len
  have hm0 : ¬ (l.length : Int) < 0 := by omega
  go_enter Tryz.func57, Tryz.ntmps57
  go_wp2_with (fail)
  refine (ready_yes r _ w hrd).mono fun x w' hq => ?_
  obtain ⟨rfl, rfl⟩ := hq
  go_wp2_with (fail)
  refine (take_any r l.length l 0 _ hh (Nat.le_refl _)).mono fun y w2 hq => ?_
  obtain ⟨hd2, ho, v2, rfl, hb⟩ := hq
  rw [List.take_length] at hb
  rw [List.drop_length] at hd2
  go_wp2_with (fail)
  refine (clone_any r 0 l v2 w2 hb (by have := hd2.lt; omega) hl).mono fun y w3 hq => ?_
  obtain ⟨v3, rfl, hb3, hbl⟩ := hq
  obtain ⟨a3, c3, rfl⟩ := hb3.len
  go_wp2
  go_ret
  exact ⟨hd2.below hbl hd2.lt (fun k hk _ => by have := hI k hk; rw [ho.size]; exact this), (Turn.only (S := fun k => k = r) ho rfl).trans (.below hbl fun k h1 h2 => by omega), a3, c3, rfl⟩

set_option maxRecDepth 1000000 in
theorem id_any (l : List UInt8) (v : Value) (w : World) (hv : BytesAt w v l) (hlen : l.length ≤ 1000000000) : Calls Tryz.prog 23 #[v] w fun e w' => e = .returned (.int .u64 (max (hashD l) 1)) ∧ w' = w := by
  go_enter Tryz.func23, Tryz.ntmps23
  go_wp2_with (fail)
  refine (hash_any l v w hv hlen).mono fun e w' hq => ?_
  obtain ⟨rfl, rfl⟩ := hq
  go_wp2
  go_ret
  exact ⟨rfl, rfl⟩
end Go.Proofs

namespace Go.Proofs
open Go.RowKit Go.Lib

theorem dec_pos (s : ByteArray) (pos : Nat) : 1 ≤ (Utf8.decode s pos).2 := by
  unfold Utf8.decode
  simp only
  repeat' split
  all_goals simp
theorem dec_le (s : ByteArray) (pos : Nat) : (Utf8.decode s pos).1 ≤ 1114111 := by
  unfold Utf8.decode
  simp only
  have := fun k => (s.get! (pos + k)).toNat_lt
  have h0 := this 0; have h1 := this 1; have h2 := this 2; have h3 := this 3
  repeat' split
  all_goals (simp only [Utf8.runeError, Utf8.valid] at *)
  all_goals (try simp at *)
  all_goals omega
theorem dec_in (s : ByteArray) (pos : Nat) (h : pos < s.size) : pos + (Utf8.decode s pos).2 ≤ s.size := by
  unfold Utf8.decode
  simp only
  repeat' split
  all_goals (try simp only [Bool.and_eq_true, decide_eq_true_eq] at *)
  all_goals omega
theorem iterPos_of {w : World} {k : Nat} {s : ByteArray} {p : Nat} (h : w.heap[k]? = some (.stringIter s p)) : w.iterPos k = p := by simp [World.iterPos, h]

/-- Is a text right, from here on? a: the rune ahead, l: where it began. -/
def rightD (s : ByteArray) : Nat → Nat → Int → Nat → Bool
  | 0, _, _, _ => false
  | f + 1, pos, a, l =>
    if pos < s.size then
      if ((Utf8.decode s pos).1 = 0 ∨ (a = 65533 ∧ pos - l < 3)) then false else rightD s f (pos + (Utf8.decode s pos).2) (Utf8.decode s pos).1 pos
    else decide (a ≠ 65533 ∨ s.size - l = 3)

set_option maxRecDepth 1000000 in
set_option maxHeartbeats 2000000 in
theorem right_any (s : ByteArray) (w : World) (hsz : s.size ≤ 8796093022207) :
    Calls Tryz.prog 127 #[.string s] w fun e w' => e = .returned (.bool (rightD s (s.size + 1) 0 32 0)) ∧ Below w.heap.size w w' := by
  go_enter Tryz.func127, Tryz.ntmps127
  go_wp2
  go_loopw [3, 4] (fun a l wr => ∃ (pos fuel l0 : Nat) (a0 : Int), a = .int .i32 a0 ∧ l = .int .i64 (l0 : Int) ∧ wr.heap[w.heap.size]? = some (.stringIter s pos) ∧ Below w.heap.size w wr ∧ Hid (rightD s fuel pos a0 l0 = rightD s (s.size + 1) 0 32 0) ∧ s.size < pos + fuel ∧ l0 ≤ pos ∧ pos ≤ s.size) (fun _ _ wr => s.size - wr.iterPos w.heap.size)
  case atStart => exact ⟨0, s.size + 1, 0, 32, rfl, rfl, World.iter_heap w s 0, (Below.refl _ _).alloc (Nat.le_refl _) _, rfl, by omega, by omega, by omega⟩
  case round =>
    obtain ⟨pos, fuel, l0, a0, rfl, rfl, hit, hbw, HS, hb, hlen, hls⟩ := hrel
    have hpos0 := iterPos_of hit
    by_cases hp : pos < s.size
    · have hnx : ∀ ty, (Instr.next (.pointer (some ⟨w.heap.size, 0, none⟩)) true ty).run Tryz.prog wr = _ := fun ty => Lib.run_next_any_at wr w.heap.size s pos ty hit hp
      have hwd := dec_pos s pos
      have hin := dec_in s pos hp
      have hle := dec_le s pos
      obtain ⟨fuel, rfl⟩ : ∃ f', fuel = f' + 1 := ⟨fuel - 1, by omega⟩
      have hit2 := Lib.iterAt_heap wr w.heap.size s pos (pos + (Utf8.decode s pos).2) hit
      have hbw2 := Lib.below_iterAt hbw (k := w.heap.size) (Nat.le_refl _) s (pos + (Utf8.decode s pos).2)
      have hstep : rightD s (fuel + 1) pos a0 l0 = if ((Utf8.decode s pos).1 = 0 ∨ (a0 = 65533 ∧ pos - l0 < 3)) then false else rightD s fuel (pos + (Utf8.decode s pos).2) (Utf8.decode s pos).1 pos := by
        rw [rightD, if_pos hp]
      obtain ⟨W1, hW1⟩ : ∃ W1, W1 = wr.iterAt w.heap.size s (pos + (Utf8.decode s pos).2) := ⟨_, rfl⟩
      rw [← hW1] at hnx hit2 hbw2
      generalize (Utf8.decode s pos).2 = wd at hnx hit2 hbw2 hstep hwd hW1 hin
      generalize (Utf8.decode s pos).1 = c at hnx hstep hle
      have X : Aside (rightD s (s.size + 1) 0 32 0 = (if (c = 0 ∨ (a0 = 65533 ∧ pos - l0 < 3)) then false else rightD s fuel (pos + wd) c pos) ∧ W1.heap[w.heap.size]? = some (.stringIter s (pos + wd)) ∧ Below w.heap.size w W1) := ⟨HS.out.symm.trans hstep, hit2, hbw2⟩
      clear hstep HS hW1 hit hbw hit2 hbw2
      have hwr : IntKind.i64.wrap ((pos : Int) - (l0 : Int)) = (pos : Int) - (l0 : Int) := by rw [IntKind.wrap_i64]; omega
      go_wp2
      · rename_i h1
        go_ret
        obtain ⟨e, x1, x2⟩ := X.out
        rw [if_pos (.inl (by omega))] at e
        exact ⟨by rw [e]; rfl, x2⟩
      · rename_i h1 h2 h3
        go_ret
        obtain ⟨e, x1, x2⟩ := X.out
        rw [if_pos (.inr ⟨h2, by rcases h3 with h | h; (simp at h; omega); omega⟩)] at e
        exact ⟨by rw [e]; rfl, x2⟩
      · rename_i h1 h2 h3
        go_roundw
        case rel =>
          obtain ⟨e, x1, x2⟩ := X.out
          exact ⟨pos + wd, fuel, pos, c, rfl, rfl, x1, x2, (show _ = _ by rw [e, if_neg (by omega)]), by omega, by omega, by omega⟩
        case measure => rw [iterPos_of X.out.2.1, hpos0]; omega
      · rename_i h1 h2
        go_roundw
        case rel =>
          obtain ⟨e, x1, x2⟩ := X.out
          exact ⟨pos + wd, fuel, pos, c, rfl, rfl, x1, x2, (show _ = _ by rw [e, if_neg (by omega)]), by omega, by omega, by omega⟩
        case measure => rw [iterPos_of X.out.2.1, hpos0]; omega
    · have hnx : ∀ ty, (Instr.next (.pointer (some ⟨w.heap.size, 0, none⟩)) true ty).run Tryz.prog wr = .ok (.tuple #[.bool false]) wr := fun ty => by
        simp [Instr.next, getObj, Sem.run, hit, hp]
      obtain ⟨fuel, rfl⟩ : ∃ f', fuel = f' + 1 := ⟨fuel - 1, by omega⟩
      have hwr : IntKind.i64.wrap ((s.size : Int) - (l0 : Int)) = (s.size : Int) - (l0 : Int) := by rw [IntKind.wrap_i64]; omega
      have X : Aside (rightD s (s.size + 1) 0 32 0 = decide (a0 ≠ 65533 ∨ s.size - l0 = 3) ∧ Below w.heap.size w wr) := ⟨by rw [← HS.out, rightD, if_neg hp], hbw⟩
      clear HS hit hbw
      go_wp2
      · rename_i h1
        go_ret
        obtain ⟨e, x2⟩ := X.out
        refine ⟨?_, x2⟩
        rw [e]
        show Ending.returned (Value.bool ((s.size : Int) - (l0 : Int) == 3)) = _
        rw [show ((s.size : Int) - (l0 : Int) == 3) = decide (a0 ≠ 65533 ∨ s.size - l0 = 3) from by
          rw [Bool.eq_iff_iff]
          simp only [beq_iff_eq, decide_eq_true_eq]
          omega]
      · rename_i h1
        go_ret
        obtain ⟨e, x2⟩ := X.out
        refine ⟨?_, x2⟩
        rw [e, decide_eq_true (.inl h1)]
        rfl
end Go.Proofs

namespace Go.Proofs
open Go.RowKit Go.Lib
def preAt (s : ByteArray) (pos : Nat) : Prop := 3 ≤ s.size - pos ∧ ((s.extract pos s.size).extract 0 3).toList = [239, 191, 189]
theorem ext3 (s : ByteArray) (pos : Nat) (h : 3 ≤ s.size - pos) : ((s.extract pos s.size).extract 0 3).toList = [s.get! pos, s.get! (pos + 1), s.get! (pos + 2)] := by
  have hg : ∀ k, k < s.size → s.data.toList[k]? = some (s.get! k) := fun k hk => by
    have hk' : k < s.data.size := hk
    rw [Array.getElem?_toList, Array.getElem?_eq_getElem hk']
    show some _ = some (s.data[k]!)
    rw [getElem!_pos s.data k hk']
  rw [ByteArray.toList_eq]
  have e : ((s.extract pos s.size).extract 0 3).data.toList = ((s.data.toList.drop pos).take 3) := by
    rw [ByteArray.data_extract, ByteArray.data_extract, Array.toList_extract, Array.toList_extract, List.extract_eq_take_drop, List.extract_eq_take_drop, List.drop_zero, List.take_take]
    congr 1
    omega
  rw [e]
  apply List.ext_getElem?
  intro j
  match j with
  | 0 => simp [List.getElem?_drop]; rw [← Array.getElem?_toList]; exact hg _ (by omega)
  | 1 => simp [List.getElem?_drop]; rw [← Array.getElem?_toList]; exact hg _ (by omega)
  | 2 => simp [List.getElem?_drop]; rw [← Array.getElem?_toList]; exact hg _ (by omega)
  | j + 3 => simp [List.getElem?_take]; omega

theorem pre_iff (s : ByteArray) (pos : Nat) (hp : pos < s.size) : (Utf8.decode s pos).1 = 65533 → (preAt s pos ↔ (Utf8.decode s pos).2 = 3) := by
  intro hc
  unfold preAt
  constructor
  · rintro ⟨h3, h⟩
    rw [ext3 s pos h3] at h
    simp only [List.cons.injEq, and_true] at h
    obtain ⟨e0, e1, e2⟩ := h
    unfold Utf8.decode
    simp only [Nat.add_zero, e0, e1, e2]
    have g1 : decide (pos + 1 < s.size) = true := by simp; omega
    have g2 : decide (pos + 2 < s.size) = true := by simp; omega
    simp only [g1, g2]
    rfl
  · intro hw
    unfold Utf8.decode at hc hw
    simp only [Nat.add_zero] at hc hw
    have l0 := (s.get! pos).toNat_lt; have l1 := (s.get! (pos + 1)).toNat_lt; have l2 := (s.get! (pos + 2)).toNat_lt
    split at hw
    · simp at hw
    · rename_i hb
      rw [if_neg hb] at hc
      split at hw
      · split at hw <;> simp at hw
      · rename_i hb2
        rw [if_neg hb2] at hc
        split at hw
        · rename_i hb3
          rw [if_pos hb3] at hc
          split at hw
          · rename_i hb4
            rw [if_pos hb4] at hc
            simp only [Bool.and_eq_true, decide_eq_true_eq, beq_iff_eq] at hb3
            simp only at hc
            have h3 : 3 ≤ s.size - pos := by omega
            refine ⟨h3, ?_⟩
            rw [ext3 s pos h3]
            have t0 : (s.get! pos).toNat = 239 := by omega
            have t1 : (s.get! (pos + 1)).toNat = 191 := by omega
            have t2 : (s.get! (pos + 2)).toNat = 189 := by omega
            have u0 : s.get! pos = 239 := UInt8.toNat_inj.1 t0
            have u1 : s.get! (pos + 1) = 191 := UInt8.toNat_inj.1 t1
            have u2 : s.get! (pos + 2) = 189 := UInt8.toNat_inj.1 t2
            rw [u0, u1, u2]
          · simp at hw
        · split at hw
          · split at hw <;> simp at hw
          · simp at hw
end Go.Proofs

/- A part of the proof of CarveSides: the runs of the document's example and of the law's body, and facts of the row. Conditions: none. -/
import Derived.Test.YtficpbnmmchpeaaGreatDoorProg
import Derived.WalkKit
import Derived.WalkSpells
import Derived.Deep.LoopGhost
import Derived.Lib.OthersKept
import Derived.Shelf.SlLaysN
import Derived.Shelf.RegionOpenPlain
import Derived.Lib.Walk
import Derived.Lib.SliceRun
import Derived.Lib.AppendStr
import Derived.Laws.BytesArg
namespace Go.Proofs
open Go.RowKit Go.Lib

/-- A slice that holds these bytes. -/
def BytesAt (w : World) (v : Value) (l : List UInt8) : Prop :=
  (∃ b o c, v = .slice (some ⟨b, o, none⟩) l.length c ∧ l.length ≤ c ∧ b < w.heap.size ∧ ∀ i x, l[i]? = some x → w.cell? ⟨b, o + i, none⟩ = some (.int .u8 (x.toNat : Int))) ∨ (v = .slice none 0 0 ∧ l = [])

/-- One round of the hash, as the model tells it. -/
def hstep (h : Int) (x : UInt8) : Int := IntKind.u64.wrap (bits BinOp.xor IntKind.u64 h (IntKind.u64.wrap (x.toNat : Int)) * 1099511628211)
def hashD (l : List UInt8) : Int := l.foldl hstep 14695981039346656037

set_option maxRecDepth 1000000 in
set_option maxHeartbeats 2000000 in
theorem hash_any (l : List UInt8) (v : Value) (w : World) (hv : BytesAt w v l) (hlen : l.length ≤ 1000000000) : Calls Tryz.prog 83 #[v] w fun e w' => e = .returned (.int .u64 (hashD l)) ∧ w' = w := by
  rcases hv with ⟨b, o, c, rfl, hc, hb, hl⟩ | ⟨rfl, rfl⟩
  · go_enter Tryz.func83, Tryz.ntmps83
    go_wp2
    go_loopw [3, 5, 8] (fun h x i wr => ∃ k : Nat, i = .int .i64 (k : Int) ∧ h = .int .u64 (hashD (l.take k)) ∧ k ≤ l.length ∧ wr = w) (fun _ _ i _ => l.length - (RowKit.intOf i).toNat)
    case atStart => exact ⟨0, rfl, rfl, by omega, rfl⟩
    case round =>
      obtain ⟨k, rfl, rfl, hk, rfl⟩ := hrel
      by_cases hlt : k < l.length
      · obtain ⟨x, hx⟩ : ∃ x, l[k]? = some x := ⟨_, List.getElem?_eq_getElem hlt⟩
        have hcx := hl k x hx
        have hlt' : (k : Int) < (l.length : Int) := by omega
        have hw : wrap64 ((k : Int) + 1) = ((k + 1 : Nat) : Int) := by simp only [wrap64]; omega
        have hst : hashD (l.take (k + 1)) = hstep (hashD (l.take k)) x := by
          rw [List.take_add_one, hx]
          simp [hashD, List.foldl_append]
        have hxk : x = l[k] := by rw [List.getElem?_eq_getElem hlt] at hx; exact (Option.some.inj hx).symm
        subst hxk
        unfold hstep at hst
        generalize hashD (l.take k) = hh at hst ⊢
        go_wp2
        refine ⟨⟨k + 1, by first | rfl | simp, ?_, by omega, trivial⟩, by simp [RowKit.intOf]; omega⟩
        rw [hst]
      · have hk2 : k = l.length := by omega
        have hge : ¬ ((k : Int) < (l.length : Int)) := by omega
        go_wp2
        go_ret
        exact ⟨rfl, rfl⟩
  · go_enter Tryz.func83, Tryz.ntmps83
    go_wp2
    refine wp_loop_once ?_
    go_wp2
    go_ret
    exact ⟨rfl, rfl⟩
end Go.Proofs

namespace Go.Proofs
open Go.Shelf Go.RowKit Go.Lib

set_option maxRecDepth 1000000 in
set_option maxHeartbeats 4000000 in
theorem clone_at (a : Addr) (n c : Nat) (xs : List Int) (w : World) (hx : xs.length = n) (hbig : n ≤ 140737488355328) (hc : ∀ i, i < n → w.cell? (a.add i) = some (.int .u8 (xs.getD i 0))) :
    Calls Tryz.prog 53 #[.slice (some a) n c] w fun e w' => ∃ v', e = .returned v' ∧ w'.ownsRow w.heap.size 5 1 v' n (xs.map (Value.int .u8)) ∧ v' ≠ .slice none 0 0 ∧ Below w.heap.size w w' := by
  have t82 : Tryz.prog.underlying 82 = some (.slice 5) := by kernel_rfl
  have i5 : (Tryz.prog.info? 5).map (fun i => (i.zero, i.size, i.bytes)) = some (some (Value.int IntKind.u8 0), 1, 1) := by kernel_rfl
  obtain ⟨i0, hi, hz0, hz1, hz2⟩ := info_parts i5
  have q82 : ∀ (w : World) (a : Option Addr) (n c n' c' : Nat), (binOp .eql 82 (.slice a n c) (.slice none n' c')).run Tryz.prog w = .ok (.bool a.isNone) w := fun w a n c n' c' => Lib.run_eql_slice_nil w _ _ a n c n' c' t82
  have u82 : ∀ w, Sem.run Tryz.prog (underlying 82) w = .ok (TypeDesc.slice 5) w := run_underlying t82
  have z5 : ∀ w, Sem.run Tryz.prog (Go.sizeOf 5) w = .ok 1 w := fun w => by simp [Go.sizeOf, typeInfo, hi, hz1]
  have A : Aside (∀ i, i < n → w.cell? (a.add i) = some (.int .u8 (xs.getD i 0))) := hc
  clear hc
  go_enter Tryz.func53, Tryz.ntmps53
  go_wp2_with (at_builtin; refine wpList_append_own _ rfl _ _ 82 rfl w.heap.size 5 i0 (.int .u8 0) 1 1 t82 hi hz0 hz1 hz2 rfl (by decide) _ _ _ rfl (World.ownsRow_made w #[] 0 (Nat.le_refl _) (Nat.zero_le _) rfl) a n c (xs.map (Value.int .u8)) rfl ?qc1 ?qc2 ?qc3 ?qc4 ?qc5 ?qc6 ?_)
  case qc1 => simp; omega
  case qc2 =>
    intro j u hj
    have hjn : j < n := by
      have := (List.getElem?_eq_some_iff.1 hj).1
      simp at this
      omega
    refine Lib.cell?_alloc_some _ ?_
    rw [A.out j hjn]
    have e : (xs.map (Value.int .u8))[j]? = some (Value.int .u8 (xs.getD j 0)) := by simp [List.getD, List.getElem?_eq_getElem (show j < xs.length by omega)]
    rw [e] at hj
    exact hj
  case qc3 => intro u hu; obtain ⟨x, _, rfl⟩ := List.mem_map.1 hu; rfl
  case qc4 => unfold maxLen; omega
  case qc5 => omega
  case qc6 => simp
  intro v' w1 hown hgrow hnil
  go_wp2
  go_ret
  refine ⟨v', rfl, by simpa using hown, ?_, ?_⟩
  · first | exact hnil | (intro e; exact absurd (hnil.1 e).1 (by simp))
  · exact ((Below.refl _ w).alloc (Nat.le_refl _) _).grown hgrow (by simp) (by intro k hk; simp [Value.ownBlock] at hk; omega)

set_option maxRecDepth 1000000 in
theorem clone_nil (n c : Nat) (w : World) : Calls Tryz.prog 53 #[.slice none n c] w fun e w' => e = .returned (.slice none 0 0) ∧ w' = w := by
  have t82 : Tryz.prog.underlying 82 = some (.slice 5) := by kernel_rfl
  have q82 : ∀ (w : World) (a : Option Addr) (n c n' c' : Nat), (binOp .eql 82 (.slice a n c) (.slice none n' c')).run Tryz.prog w = .ok (.bool a.isNone) w := fun w a n c n' c' => Lib.run_eql_slice_nil w _ _ a n c n' c' t82
  go_enter Tryz.func53, Tryz.ntmps53
  go_wp2
  go_ret
  exact ⟨rfl, rfl⟩
end Go.Proofs

namespace Go.Proofs
open Go.Shelf Go.RowKit Go.Lib

theorem Hid.mk'' {p : Prop} (h : p) : Hid p := h
theorem World.alloc_top (w : World) (o : Obj) : (w.alloc o).heap[w.heap.size]? = some o := by
  show (w.heap.push o)[w.heap.size]? = _
  simp
theorem row_cell (w : World) (cs : Array Value) (t : TypeId) (k : Nat) (v : Value) (h : cs[k]? = some v) : (w.alloc (.cells cs t)).cell? ⟨w.heap.size, k, none⟩ = some v := by
  unfold World.cell?
  rw [World.alloc_top]
  exact h

theorem cs_one_cell (w : World) (ty : TypeId) (v : Value) : ∀ (j : Nat) (u : Value), [v][j]? = some u → (w.alloc (.cells #[v] ty)).cell? ((⟨w.heap.size, 0, none⟩ : Addr).add j) = some u := by
  intro j u hj
  match j, hj with
  | 0, hj =>
    obtain rfl : v = u := by simpa using hj
    exact row_cell w _ _ 0 _ rfl
  | j + 1, hj => simp at hj
theorem ints_one (l : List Int) : ∀ u ∈ l.map (Value.int .u8), u.oneCell' = true := by
  intro u hu
  obtain ⟨x, _, rfl⟩ := List.mem_map.1 hu
  rfl

/-- The first byte of a number's short form that has two. -/
def orB (x : Int) : Int := bits BinOp.or IntKind.u8 (IntKind.u8.wrap x) 128
/-- A number's short form, of two bytes at most. -/
def uintV (x : Nat) : List Int := if x < 128 then [(x : Int)] else [orB x, ((x / 128 : Nat) : Int)]
def ulen (x : Nat) : Nat := if x < 128 then 1 else 2
theorem uintV_len (x : Nat) : (uintV x).length = ulen x := by unfold uintV ulen; split <;> rfl
abbrev ints (l : List Int) : List Value := l.map (Value.int .u8)

set_option maxRecDepth 1000000 in
set_option maxHeartbeats 4000000 in
theorem putuint_nil (x : Nat) (hx : x < 16384) (w : World) :
    Calls Tryz.prog 26 #[.slice none 0 0, .int .u64 x] w fun e w' => ∃ v', e = .returned v' ∧ w'.ownsRow w.heap.size 5 1 v' (ulen x) (ints (uintV x)) ∧ v' ≠ .slice none 0 0 ∧ Below w.heap.size w w' := by
  have t82 : Tryz.prog.underlying 82 = some (.slice 5) := by kernel_rfl
  have i5 : (Tryz.prog.info? 5).map (fun i => (i.zero, i.size, i.bytes)) = some (some (Value.int IntKind.u8 0), 1, 1) := by kernel_rfl
  obtain ⟨i0, hi, hz0, hz1, hz2⟩ := info_parts i5
  by_cases h1 : x < 128
  · have hx1 : ¬ (128 : Int) ≤ (x : Int) := by omega
    have hw : IntKind.u8.wrap (x : Int) = (x : Int) := by simp only [IntKind.wrap, IntKind.bits, IntKind.signed]; simp; omega
    have hU : uintV x = [(x : Int)] := if_pos h1
    have hL : ulen x = 1 := if_pos h1
    rw [hU, hL]
    go_enter Tryz.func26, Tryz.ntmps26
    go_wp2_with (fail)
    refine (clone_nil 0 0 w).mono ?_
    rintro e w1 ⟨rfl, rfl⟩
    go_wp2_with (fail)
    refine wp_loop_once ?_
    go_wp2_with (at_builtin; refine wpList_append_own _ rfl _ _ 82 rfl w1.heap.size 5 i0 (.int .u8 0) 1 1 t82 hi hz0 hz1 hz2 rfl (by decide) _ 0 [] rfl (World.ownsRow_nil _ _ _ _) ⟨w1.heap.size, 0, none⟩ 1 1 [.int .u8 x] rfl rfl ?c1 ?c2 ?c3 ?c4 ?c5 ?_)
    case c1 => exact cs_one_cell _ _ _
    case c2 => exact ints_one [(x : Int)]
    case c3 => unfold maxLen; omega
    case c4 => omega
    case c5 => simp
    intro v' w2 hown hgrow hnil
    go_wp2
    go_ret
    exact ⟨v', rfl, by simpa using hown, hnil, ((Below.refl _ _).alloc (Nat.le_refl _) _).grown hgrow (by simp) (by intro k hk; simp [Value.ownBlock] at hk)⟩
  · have hx1 : (128 : Int) ≤ (x : Int) := by omega
    have hU : uintV x = [orB x, ((x / 128 : Nat) : Int)] := if_neg h1
    have hL : ulen x = 2 := if_neg h1
    have hs : ((x : Int)).fdiv 128 = ((x / 128 : Nat) : Int) := by rw [Int.fdiv_eq_ediv_of_nonneg _ (by decide)]; norm_cast
    have hx2 : ¬ (128 : Int) ≤ ((x / 128 : Nat) : Int) := by omega
    have hw : IntKind.u8.wrap ((x / 128 : Nat) : Int) = ((x / 128 : Nat) : Int) := by simp only [IntKind.wrap, IntKind.bits, IntKind.signed]; simp; omega
    rw [hU, hL]
    unfold orB
    go_enter Tryz.func26, Tryz.ntmps26
    go_wp2_with (fail)
    refine (clone_nil 0 0 w).mono ?_
    rintro e w1 ⟨rfl, rfl⟩
    go_wp2_with (fail)
    refine wp_loop_rounds 2 ?_
    rw [rounds_succ]
    go_wp2_with (at_builtin; refine wpList_append_own _ rfl (.tmp 10) (.tmp 14) 82 rfl w1.heap.size 5 i0 (.int .u8 0) 1 1 t82 hi hz0 hz1 hz2 rfl (by decide) _ 0 [] rfl (World.ownsRow_nil _ _ _ _) ⟨w1.heap.size, 0, none⟩ 1 1 [.int .u8 (bits BinOp.or IntKind.u8 (IntKind.u8.wrap ↑x) 128)] rfl rfl ?c1 ?c2 ?c3 ?c4 ?c5 ?_)
    case c1 => exact cs_one_cell _ _ _
    case c2 => exact ints_one [_]
    case c3 => unfold maxLen; omega
    case c4 => omega
    case c5 => simp
    intro v' w2 hown hgrow hnil
    go_wp2_with (fail)
    rw [rounds_succ]
    go_wp2_with (at_builtin; refine wpList_append_own _ rfl (.tmp 18) (.tmp 21) 82 rfl w1.heap.size 5 i0 (.int .u8 0) 1 1 t82 hi hz0 hz1 hz2 rfl (by decide) v' 1 [.int .u8 (bits BinOp.or IntKind.u8 (IntKind.u8.wrap ↑x) 128)] rfl (hown.alloc _) ⟨w2.heap.size, 0, none⟩ 1 1 [.int .u8 ((x / 128 : Nat) : Int)] rfl rfl ?d1 ?d2 ?d3 ?d4 ?d5 ?_)
    case d1 => exact cs_one_cell _ _ _
    case d2 => exact ints_one [_]
    case d3 => unfold maxLen; omega
    case d4 => omega
    case d5 => have := hgrow.size; simp at this ⊢; omega
    intro v3 w3 hown3 hgrow3 hnil3
    go_wp2
    go_ret
    have b2 : Below w1.heap.size w1 w2 := ((Below.refl _ _).alloc (Nat.le_refl _) _).grown hgrow (by simp) (by intro k hk; simp [Value.ownBlock] at hk)
    exact ⟨v3, rfl, hown3, hnil3, (b2.alloc b2.size _).grown hgrow3 (by have := b2.size; simp; omega) (fun k hk => (hown.lt k hk).1)⟩
end Go.Proofs

namespace Go.Proofs
open Go.Shelf Go.RowKit Go.Lib
attribute [local go_sem] Oper.semAt_some

set_option maxRecDepth 1000000 in
set_option maxHeartbeats 4000000 in
theorem puttext_nil (s : ByteArray) (hs : s.size < 16384) (w : World) :
    Calls Tryz.prog 24 #[.slice none 0 0, .string s] w fun e w' => ∃ v', e = .returned v' ∧ w'.ownsRow w.heap.size 5 1 v' (ulen s.size + s.size) (ints (uintV s.size) ++ strCells s) ∧ v' ≠ .slice none 0 0 ∧ Below w.heap.size w w' := by
  have t82 : Tryz.prog.underlying 82 = some (.slice 5) := by kernel_rfl
  have t9 : Tryz.prog.underlying 9 = some .string := by kernel_rfl
  have i5 : (Tryz.prog.info? 5).map (fun i => (i.zero, i.size, i.bytes)) = some (some (Value.int IntKind.u8 0), 1, 1) := by kernel_rfl
  obtain ⟨i0, hi, hz0, hz1, hz2⟩ := info_parts i5
  have hul : ulen s.size ≤ 2 := by unfold ulen; split <;> omega
  have hw : IntKind.u64.wrap (s.size : Int) = (s.size : Int) := by rw [IntKind.wrap_u64]; omega
  go_enter Tryz.func24, Tryz.ntmps24
  go_wp2_with (fail)
  refine (putuint_nil s.size hs w).mono ?_
  rintro e w1 ⟨v1, rfl, hown, hne, hb1⟩
  go_wp2_with (at_builtin; refine wpList_append_own_string _ rfl _ _ 82 9 rfl w.heap.size 5 i0 t82 t9 hi hz0 hz1 hz2 v1 (ulen s.size) (ints (uintV s.size)) rfl hown s rfl ?c1 ?c2 ?c3 ?_)
  case c1 => unfold maxLen; omega
  case c2 => omega
  case c3 => exact hb1.size
  intro v2 w2 hown2 hgrow2 hnil2
  go_wp2
  go_ret
  exact ⟨v2, rfl, hown2, hnil2, hb1.grown hgrow2 hb1.size (fun k hk => (hown.lt k hk).1)⟩

def wordV (x : Int) : List Int := [x / 72057594037927936 % 256, x / 281474976710656 % 256, x / 1099511627776 % 256, x / 4294967296 % 256, x / 16777216 % 256, x / 65536 % 256, x / 256 % 256, x % 256]

set_option maxRecDepth 1000000 in
set_option maxHeartbeats 16000000 in
theorem putword_at (a : Addr) (n c : Nat) (xs : List Int) (x : Int) (w : World) (hx : xs.length = n) (hbig : n ≤ 1000000) (hc : ∀ i, i < n → w.cell? (a.add i) = some (.int .u8 (xs.getD i 0))) :
    Calls Tryz.prog 23 #[.slice (some a) n c, .int .u64 x] w fun e w' => ∃ v', e = .returned v' ∧ w'.ownsRow w.heap.size 5 1 v' (n + 8) (ints xs ++ ints (wordV x)) ∧ v' ≠ .slice none 0 0 ∧ Below w.heap.size w w' := by
  have t82 : Tryz.prog.underlying 82 = some (.slice 5) := by kernel_rfl
  have i5 : (Tryz.prog.info? 5).map (fun i => (i.zero, i.size, i.bytes)) = some (some (Value.int IntKind.u8 0), 1, 1) := by kernel_rfl
  obtain ⟨i0, hi, hz0, hz1, hz2⟩ := info_parts i5
  have HC := Hid.mk'' hc
  clear hc
  have hxi := Hid.mk'' hx
  clear hx
  have E : Hid (ints (wordV x) = [.int .u8 (x / 72057594037927936 % 256), .int .u8 (x / 281474976710656 % 256), .int .u8 (x / 1099511627776 % 256), .int .u8 (x / 4294967296 % 256), .int .u8 (x / 16777216 % 256), .int .u8 (x / 65536 % 256), .int .u8 (x / 256 % 256), .int .u8 (x % 256)]) := rfl
  go_enter Tryz.func23, Tryz.ntmps23
  go_wp2_with (fail)
  refine (clone_at a n c xs w hxi.out (by omega) HC.out).mono ?_
  rintro e w0 ⟨v0, rfl, own0, ne0, b0⟩
  go_wp2_with (fail)
  refine wp_loop_rounds 9 ?_
  rw [rounds_succ]
  go_wp2_with (at_builtin; refine wpList_append_own _ rfl (.tmp 13) (.tmp 18) 82 rfl w.heap.size 5 i0 (.int .u8 0) 1 1 t82 hi hz0 hz1 hz2 rfl (by decide) v0 (n + 0) _ rfl (own0.alloc _) ⟨w0.heap.size, 0, none⟩ 1 1 [.int .u8 (x / 72057594037927936 % 256)] rfl rfl ?a0 ?b0 ?c0 ?d0 ?e0 ?_)
  case a0 => exact cs_one_cell _ _ _
  case b0 => exact ints_one [_]
  case c0 => unfold maxLen; omega
  case d0 => omega
  case e0 => have := b0.size; simp at this ⊢; omega
  intro v1 w1 own1 g1 ne1
  have b1 : Below w.heap.size w w1 := (b0.alloc b0.size _).grown g1 (by have := b0.size; simp; omega) (fun j hj => (own0.lt j hj).1)
  clear g1
  go_wp2_with (fail)
  rw [rounds_succ]
  go_wp2_with (at_builtin; refine wpList_append_own _ rfl (.tmp 13) (.tmp 18) 82 rfl w.heap.size 5 i0 (.int .u8 0) 1 1 t82 hi hz0 hz1 hz2 rfl (by decide) v1 (n + 1) _ rfl (own1.alloc _) ⟨w1.heap.size, 0, none⟩ 1 1 [.int .u8 (x / 281474976710656 % 256)] rfl rfl ?a1 ?b1 ?c1 ?d1 ?e1 ?_)
  case a1 => exact cs_one_cell _ _ _
  case b1 => exact ints_one [_]
  case c1 => unfold maxLen; omega
  case d1 => omega
  case e1 => have := b1.size; simp at this ⊢; omega
  intro v2 w2 own2 g2 ne2
  have b2 : Below w.heap.size w w2 := (b1.alloc b1.size _).grown g2 (by have := b1.size; simp; omega) (fun j hj => (own1.lt j hj).1)
  clear g2
  go_wp2_with (fail)
  rw [rounds_succ]
  go_wp2_with (at_builtin; refine wpList_append_own _ rfl (.tmp 13) (.tmp 18) 82 rfl w.heap.size 5 i0 (.int .u8 0) 1 1 t82 hi hz0 hz1 hz2 rfl (by decide) v2 (n + 2) _ rfl (own2.alloc _) ⟨w2.heap.size, 0, none⟩ 1 1 [.int .u8 (x / 1099511627776 % 256)] rfl rfl ?a2 ?b2 ?c2 ?d2 ?e2 ?_)
  case a2 => exact cs_one_cell _ _ _
  case b2 => exact ints_one [_]
  case c2 => unfold maxLen; omega
  case d2 => omega
  case e2 => have := b2.size; simp at this ⊢; omega
  intro v3 w3 own3 g3 ne3
  have b3 : Below w.heap.size w w3 := (b2.alloc b2.size _).grown g3 (by have := b2.size; simp; omega) (fun j hj => (own2.lt j hj).1)
  clear g3
  go_wp2_with (fail)
  rw [rounds_succ]
  go_wp2_with (at_builtin; refine wpList_append_own _ rfl (.tmp 13) (.tmp 18) 82 rfl w.heap.size 5 i0 (.int .u8 0) 1 1 t82 hi hz0 hz1 hz2 rfl (by decide) v3 (n + 3) _ rfl (own3.alloc _) ⟨w3.heap.size, 0, none⟩ 1 1 [.int .u8 (x / 4294967296 % 256)] rfl rfl ?a3 ?b3 ?c3 ?d3 ?e3 ?_)
  case a3 => exact cs_one_cell _ _ _
  case b3 => exact ints_one [_]
  case c3 => unfold maxLen; omega
  case d3 => omega
  case e3 => have := b3.size; simp at this ⊢; omega
  intro v4 w4 own4 g4 ne4
  have b4 : Below w.heap.size w w4 := (b3.alloc b3.size _).grown g4 (by have := b3.size; simp; omega) (fun j hj => (own3.lt j hj).1)
  clear g4
  go_wp2_with (fail)
  rw [rounds_succ]
  go_wp2_with (at_builtin; refine wpList_append_own _ rfl (.tmp 13) (.tmp 18) 82 rfl w.heap.size 5 i0 (.int .u8 0) 1 1 t82 hi hz0 hz1 hz2 rfl (by decide) v4 (n + 4) _ rfl (own4.alloc _) ⟨w4.heap.size, 0, none⟩ 1 1 [.int .u8 (x / 16777216 % 256)] rfl rfl ?a4 ?b4 ?c4 ?d4 ?e4 ?_)
  case a4 => exact cs_one_cell _ _ _
  case b4 => exact ints_one [_]
  case c4 => unfold maxLen; omega
  case d4 => omega
  case e4 => have := b4.size; simp at this ⊢; omega
  intro v5 w5 own5 g5 ne5
  have b5 : Below w.heap.size w w5 := (b4.alloc b4.size _).grown g5 (by have := b4.size; simp; omega) (fun j hj => (own4.lt j hj).1)
  clear g5
  go_wp2_with (fail)
  rw [rounds_succ]
  go_wp2_with (at_builtin; refine wpList_append_own _ rfl (.tmp 13) (.tmp 18) 82 rfl w.heap.size 5 i0 (.int .u8 0) 1 1 t82 hi hz0 hz1 hz2 rfl (by decide) v5 (n + 5) _ rfl (own5.alloc _) ⟨w5.heap.size, 0, none⟩ 1 1 [.int .u8 (x / 65536 % 256)] rfl rfl ?a5 ?b5 ?c5 ?d5 ?e5 ?_)
  case a5 => exact cs_one_cell _ _ _
  case b5 => exact ints_one [_]
  case c5 => unfold maxLen; omega
  case d5 => omega
  case e5 => have := b5.size; simp at this ⊢; omega
  intro v6 w6 own6 g6 ne6
  have b6 : Below w.heap.size w w6 := (b5.alloc b5.size _).grown g6 (by have := b5.size; simp; omega) (fun j hj => (own5.lt j hj).1)
  clear g6
  go_wp2_with (fail)
  rw [rounds_succ]
  go_wp2_with (at_builtin; refine wpList_append_own _ rfl (.tmp 13) (.tmp 18) 82 rfl w.heap.size 5 i0 (.int .u8 0) 1 1 t82 hi hz0 hz1 hz2 rfl (by decide) v6 (n + 6) _ rfl (own6.alloc _) ⟨w6.heap.size, 0, none⟩ 1 1 [.int .u8 (x / 256 % 256)] rfl rfl ?a6 ?b6 ?c6 ?d6 ?e6 ?_)
  case a6 => exact cs_one_cell _ _ _
  case b6 => exact ints_one [_]
  case c6 => unfold maxLen; omega
  case d6 => omega
  case e6 => have := b6.size; simp at this ⊢; omega
  intro v7 w7 own7 g7 ne7
  have b7 : Below w.heap.size w w7 := (b6.alloc b6.size _).grown g7 (by have := b6.size; simp; omega) (fun j hj => (own6.lt j hj).1)
  clear g7
  go_wp2_with (fail)
  rw [rounds_succ]
  go_wp2_with (at_builtin; refine wpList_append_own _ rfl (.tmp 13) (.tmp 18) 82 rfl w.heap.size 5 i0 (.int .u8 0) 1 1 t82 hi hz0 hz1 hz2 rfl (by decide) v7 (n + 7) _ rfl (own7.alloc _) ⟨w7.heap.size, 0, none⟩ 1 1 [.int .u8 (x % 256)] rfl rfl ?a7 ?b7 ?c7 ?d7 ?e7 ?_)
  case a7 => exact cs_one_cell _ _ _
  case b7 => exact ints_one [_]
  case c7 => unfold maxLen; omega
  case d7 => omega
  case e7 => have := b7.size; simp at this ⊢; omega
  intro v8 w8 own8 g8 ne8
  have b8 : Below w.heap.size w w8 := (b7.alloc b7.size _).grown g8 (by have := b7.size; simp; omega) (fun j hj => (own7.lt j hj).1)
  clear g8
  go_wp2_with (fail)
  rw [rounds_succ]
  go_wp2_with (fail)
  go_ret
  refine ⟨v8, rfl, ?_, ne8, b8⟩
  rw [E.out]
  simpa using own8
end Go.Proofs

namespace Go.Proofs
open Go.Shelf Go.RowKit Go.Lib

theorem own_slice {w : World} {B n : Nat} {v : Value} {xs : List Int} (h : w.ownsRow B 5 1 v n (ints xs)) (hv : v ≠ .slice none 0 0) :
    ∃ g cap, v = .slice (some ⟨g, 0, none⟩) n cap ∧ B ≤ g ∧ g < w.heap.size ∧ xs.length = n ∧ ∀ i, i < n → w.cell? ((⟨g, 0, none⟩ : Addr).add i) = some (.int .u8 (xs.getD i 0)) := by
  have hl : xs.length = n := by have := h.1; simpa using this
  have hh := h
  rcases h.2 with ⟨rfl, _⟩ | ⟨g, cap, cur, rfl, hb, hg, _⟩
  · exact absurd rfl hv
  · refine ⟨g, cap, rfl, hb, (Array.getElem?_eq_some_iff.1 hg).1, hl, fun i hi => ?_⟩
    refine hh.cells (g := g) rfl i _ ?_
    rw [List.getElem?_map, List.getElem?_eq_getElem (by omega)]
    simp [List.getD, List.getElem?_eq_getElem (show i < xs.length by omega)]

theorem own_low {w : World} {B B' n : Nat} {v : Value} {xs : List Value} (h : w.ownsRow B 5 1 v n xs) (hB : B' ≤ B) : w.ownsRow B' 5 1 v n xs := by
  obtain ⟨h1, h2⟩ := h
  refine ⟨h1, ?_⟩
  rcases h2 with h2 | ⟨g, cap, cur, e, hb, r⟩
  · exact .inl h2
  · exact .inr ⟨g, cap, cur, e, Nat.le_trans hB hb, r⟩

def textB (l : List UInt8) : ByteArray := ⟨l.toArray⟩
theorem strCells_ints (s : ByteArray) : strCells s = ints (s.data.toList.map fun b => (b.toNat : Int)) := by
  simp [strCells, Function.comp_def]
theorem conv_bytes {w : World} {b o c : Nat} {l : List UInt8} (hl : ∀ i x, l[i]? = some x → w.cell? ⟨b, o + i, none⟩ = some (.int .u8 (x.toNat : Int))) (src e dst : TypeId) (hs : Tryz.prog.underlying src = some (.slice e)) (he : Tryz.prog.underlying e = some (.int .u8)) (hd : Tryz.prog.underlying dst = some .string) : (convert src dst (.slice (some ⟨b, o, none⟩) l.length c)).run Tryz.prog w = .ok (.string (textB l)) w := by
  have := run_convert_bytes_arg (P := Tryz.prog) w src e hs he b o l.length c (l.map fun x => (x.toNat : Int)) (by simp) (fun i hi => by
      rw [hl i l[i] (List.getElem?_eq_getElem hi)]
      simp [List.getD, List.getElem?_eq_getElem hi]) dst hd
  rw [this]
  simp [strOfNums, textB, Function.comp_def]

set_option maxRecDepth 1000000 in
set_option maxHeartbeats 4000000 in
theorem record_at (b o c : Nat) (l : List UInt8) (w : World) (hb : b < w.heap.size) (hc : l.length ≤ c) (hlen : l.length < 16000) (hl : ∀ i x, l[i]? = some x → w.cell? ⟨b, o + i, none⟩ = some (.int .u8 (x.toNat : Int))) :
    Calls Tryz.prog 54 #[.slice (some ⟨b, o, none⟩) l.length c] w fun e w' => ∃ v' xs, e = .returned v' ∧ w'.ownsRow w.heap.size 5 1 v' (ulen l.length + l.length + 8) (ints xs) ∧ v' ≠ .slice none 0 0 ∧ Below w.heap.size w w' := by
  have u82 : Tryz.prog.underlying 82 = some (.slice 5) := by kernel_rfl
  have u5 : Tryz.prog.underlying 5 = some (.int .u8) := by kernel_rfl
  have u9 : Tryz.prog.underlying 9 = some .string := by kernel_rfl
  have q1 := conv_bytes (c := c) hl 82 5 9 u82 u5 u9
  have hts : (textB l).size = l.length := by simp [textB, ByteArray.size]
  have HL := Hid.mk'' hl
  have hul : ulen l.length ≤ 2 := by unfold ulen; split <;> omega
  clear hl
  go_enter Tryz.func54, Tryz.ntmps54
  go_wp2_with (fail)
  refine (puttext_nil (textB l) (by rw [hts]; omega) w).mono ?_
  rintro e w1 ⟨v1, rfl, own1, ne1, b1⟩
  rw [hts, strCells_ints] at own1
  have hm : ints (uintV l.length) ++ ints ((textB l).data.toList.map fun b => (b.toNat : Int)) = ints (uintV l.length ++ (textB l).data.toList.map fun b => (b.toNat : Int)) := by simp [ints]
  rw [hm] at own1
  obtain ⟨g1, cap1, rfl, hg1, hg1', hl1, hc1⟩ := own_slice own1 ne1
  clear hm
  generalize (uintV l.length ++ (textB l).data.toList.map fun b => (b.toNat : Int)) = X1 at own1 hl1 hc1
  have BA : BytesAt w1 (.slice (some ⟨b, o, none⟩) l.length c) l := .inl ⟨b, o, c, rfl, hc, Nat.lt_of_lt_of_le hb b1.size, fun i x hx => (b1.cell hb).trans (HL.out i x hx)⟩
  have HB := Hid.mk'' BA
  clear BA q1
  go_wp2_with (fail)
  refine (hash_any l _ w1 HB.out (by omega)).mono ?_
  rintro e w2 ⟨rfl, rfl⟩
  have HC1 := Hid.mk'' hc1
  clear hc1
  go_wp2_with (fail)
  refine (putword_at ⟨g1, 0, none⟩ _ cap1 X1 (hashD l) w2 hl1 (by omega) HC1.out).mono ?_
  rintro e w3 ⟨v3, rfl, own3, ne3, b3⟩
  go_wp2
  go_ret
  refine ⟨v3, X1 ++ wordV (hashD l), rfl, ?_, ne3, b1.trans (b3.mono b1.size)⟩
  rw [show ints (X1 ++ wordV (hashD l)) = ints X1 ++ ints (wordV (hashD l)) by simp [ints]]
  exact own_low own3 b1.size
end Go.Proofs

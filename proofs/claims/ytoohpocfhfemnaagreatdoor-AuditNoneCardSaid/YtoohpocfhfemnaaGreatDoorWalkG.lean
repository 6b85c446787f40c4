/- A part of the proof of AuditNone: the runs of the document's example and of the law's body, and facts of the row. Conditions: none. -/
import Derived.Test.YtoohpocfhfemnaaGreatDoorWalkF
import Derived.Test.YtoohpocfhfemnaaGreatDoorWalkE
import Derived.Laws.Cover1
namespace Go.Proofs
open Go.RowKit Go.Lib

/-- A slice that holds these entries. -/
def EntsAt (w : World) (v : Value) (l : List (ByteArray × Bool × Int)) : Prop :=
  (∃ b c, v = .slice (some ⟨b, 0, none⟩) l.length c ∧ l.length ≤ c ∧ b < w.heap.size ∧ ∀ i x, l[i]? = some x → w.cell? ⟨b, i * 3, none⟩ = some (.string x.1) ∧ w.cell? ⟨b, i * 3 + 1, none⟩ = some (.bool x.2.1) ∧ w.cell? ⟨b, i * 3 + 2, none⟩ = some (.int .u64 x.2.2)) ∨ (v = .slice none 0 0 ∧ l = [])
theorem EntsAt.below {w w' : World} {v : Value} {l : List (ByteArray × Bool × Int)} (h : EntsAt w v l) (hb : Below w.heap.size w w') : EntsAt w' v l := by
  rcases h with ⟨b, c, h1, h2, h3, h4⟩ | h
  · exact .inl ⟨b, c, h1, h2, Nat.lt_of_lt_of_le h3 hb.size, fun i x hx => ⟨(hb.cell (p := ⟨b, _, none⟩) h3).trans (h4 i x hx).1, (hb.cell (p := ⟨b, _, none⟩) h3).trans (h4 i x hx).2.1, (hb.cell (p := ⟨b, _, none⟩) h3).trans (h4 i x hx).2.2⟩⟩
  · exact .inr h

/-- Is a text no more than another? -/
def leS (a b : ByteArray) : Bool := Op.bytesLess a.toList b.toList || a.toList == b.toList
/-- What is wrong with entries, from here on. -/
def treeD : List (ByteArray × Bool × Int) → ByteArray → Int
  | [], _ => 0
  | x :: l, a => if ((spotD x.1).1 : Int) ≠ 0 then ((spotD x.1).1 : Int) else if leS x.1 a = true then 161 else if x.2.2 = 0 then 2 else treeD l x.1

set_option maxRecDepth 1000000 in
set_option maxHeartbeats 4000000 in
theorem tree_loop (l : List (ByteArray × Bool × Int)) (b c : Nat) (w : World) (hsz : ∀ x ∈ l, x.1.size ≤ 1000000000) (hlen : l.length ≤ 256) (hc : l.length ≤ c) (hb : b < w.heap.size) (hl : ∀ i x, l[i]? = some x → w.cell? ⟨b, i * 3, none⟩ = some (.string x.1) ∧ w.cell? ⟨b, i * 3 + 1, none⟩ = some (.bool x.2.1) ∧ w.cell? ⟨b, i * 3 + 2, none⟩ = some (.int .u64 x.2.2)) :
    Calls Tryz.prog 89 #[.slice (some ⟨b, 0, none⟩) l.length c] w fun e w' => e = .returned (.int .i64 (treeD l ByteArray.empty)) ∧ Below w.heap.size w w' := by
  have hl256 : ¬ (256 : Int) < (l.length : Int) := by omega
  go_enter Tryz.func89, Tryz.ntmps89
  go_wp2
  go_loopw [3, 12] (fun a i wr => ∃ (k : Nat) (s : ByteArray), i = .int .i64 (k : Int) ∧ a = .string s ∧ Hid (treeD (l.drop k) s = treeD l ByteArray.empty) ∧ k ≤ l.length ∧ Below w.heap.size w wr) (fun _ i _ => l.length - (RowKit.intOf i).toNat)
  case atStart => exact ⟨0, ByteArray.empty, rfl, rfl, rfl, by omega, Below.refl _ _⟩
  case round =>
    obtain ⟨k, s, rfl, rfl, hn, hk, hbl⟩ := hrel
    by_cases hlt : k < l.length
    · obtain ⟨x, hx⟩ : ∃ x, l[k]? = some x := ⟨_, List.getElem?_eq_getElem hlt⟩
      obtain ⟨hc0, hc1, hc2⟩ := hl k x hx
      have hx0 : wr.cell? ⟨b, k * 3, none⟩ = some (.string x.1) := (hbl.cell (p := ⟨b, _, none⟩) hb).trans hc0
      have hx1 : wr.cell? ⟨b, k * 3 + 1, none⟩ = some (.bool x.2.1) := (hbl.cell (p := ⟨b, _, none⟩) hb).trans hc1
      have hx2 : wr.cell? ⟨b, k * 3 + 2, none⟩ = some (.int .u64 x.2.2) := (hbl.cell (p := ⟨b, _, none⟩) hb).trans hc2
      clear hc0 hc1 hc2
      have hlt' : (k : Int) < (l.length : Int) := by omega
      have hw : wrap64 ((k : Int) + 1) = ((k + 1 : Nat) : Int) := by simp only [wrap64]; omega
      have hszx := hsz x (List.mem_of_getElem? hx)
      have hn2 := hn.out
      have hxk : l[k] = x := by rw [List.getElem?_eq_getElem hlt] at hx; exact Option.some.inj hx
      rw [List.drop_eq_getElem_cons hlt, hxk, treeD] at hn2
      obtain ⟨xn, xf, xi⟩ := x
      simp only at hx0 hx1 hx2 hn2 hszx
      have HN : Hid ((if ((spotD xn).1 : Int) ≠ 0 then ((spotD xn).1 : Int) else if leS xn s = true then 161 else if xi = 0 then 2 else treeD (l.drop (k + 1)) xn) = treeD l ByteArray.empty) := hn2
      clear hn2 hn hxk hx hl
      go_wp2_with (fail)
      generalize hW1 : wr.alloc (Obj.cells #[Value.string xn, Value.bool xf, Value.int IntKind.u64 xi] 138) = W1
      have hB1 : Below w.heap.size w W1 := by rw [← hW1]; exact hbl.alloc hbl.size _
      have hs1 : wr.heap.size < W1.heap.size := by rw [← hW1]; show _ < (wr.heap.push _).size; simp
      have c0 : W1.cell? ⟨wr.heap.size, 0, none⟩ = some (.string xn) := by rw [← hW1]; exact row_cell _ _ _ 0 _ rfl
      have c2 : W1.cell? ⟨wr.heap.size, 2, none⟩ = some (.int .u64 xi) := by rw [← hW1]; exact row_cell _ _ _ 2 _ rfl
      clear hW1 hx0 hx1 hx2
      refine (check_any xn W1 (by omega)).mono ?_
      rintro e W2 ⟨rfl, hB2⟩
      have c0' : W2.cell? ⟨wr.heap.size, 0, none⟩ = some (.string xn) := (hB2.cell (p := ⟨wr.heap.size, 0, none⟩) hs1).trans c0
      have c2' : W2.cell? ⟨wr.heap.size, 2, none⟩ = some (.int .u64 xi) := (hB2.cell (p := ⟨wr.heap.size, 2, none⟩) hs1).trans c2
      have hB3 : Below w.heap.size w W2 := hB1.trans (hB2.mono (Nat.le_of_lt (Nat.lt_of_le_of_lt hbl.size hs1)))
      have hs2 : wr.heap.size < W2.heap.size := Nat.lt_of_lt_of_le hs1 hB2.size
      have hws : w.heap.size ≤ wr.heap.size := hbl.size
      clear c0 c2 hB1 hB2 hs1 hbl
      generalize spotD xn = sp at HN ⊢
      obtain ⟨s1, s2⟩ := sp
      simp only at HN ⊢
      have hB4 : Below w.heap.size w (W2.alloc (Obj.cells #[Value.int IntKind.i64 s1, Value.int IntKind.i64 s2] 143)) := hB3.alloc hB3.size _
      by_cases h1 : s1 = 0
      · subst h1
        have hleq : (Op.bytesLess xn.toList s.toList || xn.toList == s.toList) = leS xn s := rfl
        generalize leS xn s = le at HN hleq
        cases le with
        | true =>
          have HN2 : Hid (treeD l ByteArray.empty = 161) := by rw [← HN.out, if_neg (by simp), if_pos rfl]; rfl
          clear HN
          go_wp2_with (fail)
          go_ret
          exact ⟨by rw [HN2.out]; rfl, hB4⟩
        | false =>
          by_cases h3 : xi = 0
          · have h3' : (xi == 0) = true := by simpa using h3
            have HN2 : Hid (treeD l ByteArray.empty = 2) := by rw [← HN.out, if_neg (by simp), if_neg (by simp), if_pos h3]; rfl
            clear HN h3
            go_wp2_with (fail)
            go_ret
            exact ⟨by rw [HN2.out]; rfl, hB4⟩
          · have h3' : (xi == 0) = false := by simpa using h3
            have HN2 : Hid (treeD (l.drop (k + 1)) xn = treeD l ByteArray.empty) := by rw [← HN.out, if_neg (by simp), if_neg (by simp), if_neg h3]; rfl
            clear HN h3
            go_wp2_with (fail)
            exact ⟨⟨k + 1, xn, by first | rfl | simp, rfl, HN2, by omega, hB4⟩, by simp [RowKit.intOf]; omega⟩
      · have h1' : ((s1 : Int) == 0) = false := by simpa using h1
        have HN2 : Hid (treeD l ByteArray.empty = s1) := by rw [← HN.out, if_pos (by omega)]; rfl
        clear HN h1
        go_wp2_with (fail)
        go_ret
        exact ⟨by rw [HN2.out]; rfl, hB4⟩
    · have hge : ¬ ((k : Int) < (l.length : Int)) := by omega
      obtain rfl : k = l.length := by omega
      have hn2 := hn.out
      rw [List.drop_length] at hn2
      have HN2 : Hid (treeD l ByteArray.empty = 0) := hn2.symm
      clear hn hn2
      go_wp2_with (fail)
      go_ret
      exact ⟨by rw [HN2.out]; rfl, hbl⟩

/-- What is wrong with the entries of a tree. -/
def treeF (l : List (ByteArray × Bool × Int)) : Int := if 256 < l.length then 3 else treeD l ByteArray.empty

set_option maxRecDepth 1000000 in
set_option maxHeartbeats 4000000 in
theorem tree_any (l : List (ByteArray × Bool × Int)) (v : Value) (w : World) (hsz : ∀ x ∈ l, x.1.size ≤ 1000000000) (hlen : l.length ≤ 1000000000) (hv : EntsAt w v l) :
    Calls Tryz.prog 89 #[v] w fun e w' => e = .returned (.int .i64 (treeF l)) ∧ Below w.heap.size w w' := by
  rcases hv with ⟨b, c, rfl, hc, hb, hl⟩ | ⟨rfl, rfl⟩
  · unfold treeF
    by_cases h : 256 < l.length
    · have h' : (256 : Int) < (l.length : Int) := by omega
      rw [if_pos h]
      clear hl
      go_enter Tryz.func89, Tryz.ntmps89
      go_wp2_with (fail)
      go_ret
      exact ⟨rfl, Below.refl _ _⟩
    · rw [if_neg h]
      exact tree_loop l b c w hsz (by omega) hc hb hl
  · go_enter Tryz.func89, Tryz.ntmps89
    go_wp2
    refine wp_loop_once ?_
    go_wp2
    go_ret
    exact ⟨rfl, Below.refl _ _⟩
end Go.Proofs

namespace Go.Proofs
open Go.RowKit Go.Lib

section
set_option maxRecDepth 1000000
theorem ta_bb (x : Value) (w : World) : (Instr.typeAssert (.iface 133 x) 76 133 true).run Tryz.prog w = .ok (.tuple #[x, .bool true]) w := by kernel_rfl
theorem ta_tb (x : Value) (w : World) : (Instr.typeAssert (.iface 136 x) 76 133 true).run Tryz.prog w = .ok (.tuple #[.agg #[.slice none 0 0], .bool false]) w := by kernel_rfl
theorem ta_tt (x : Value) (w : World) : (Instr.typeAssert (.iface 136 x) 76 136 true).run Tryz.prog w = .ok (.tuple #[x, .bool true]) w := by kernel_rfl
theorem ta_cb (x : Value) (w : World) : (Instr.typeAssert (.iface 140 x) 76 133 true).run Tryz.prog w = .ok (.tuple #[.agg #[.slice none 0 0], .bool false]) w := by kernel_rfl
theorem ta_ct (x : Value) (w : World) : (Instr.typeAssert (.iface 140 x) 76 136 true).run Tryz.prog w = .ok (.tuple #[.agg #[.slice none 0 0], .bool false]) w := by kernel_rfl
theorem ta_cc (x : Value) (w : World) : (Instr.typeAssert (.iface 140 x) 76 140 true).run Tryz.prog w = .ok (.tuple #[x, .bool true]) w := by kernel_rfl
theorem ta_nb (w : World) : (Instr.typeAssert .nilIface 76 133 true).run Tryz.prog w = .ok (.tuple #[.agg #[.slice none 0 0], .bool false]) w := by kernel_rfl
theorem ta_nt (w : World) : (Instr.typeAssert .nilIface 76 136 true).run Tryz.prog w = .ok (.tuple #[.agg #[.slice none 0 0], .bool false]) w := by kernel_rfl
theorem ta_nc (w : World) : (Instr.typeAssert .nilIface 76 140 true).run Tryz.prog w = .ok (.tuple #[.agg #[.int .u64 0, .slice none 0 0, .string ByteArray.empty, .int .i64 0, .string ByteArray.empty], .bool false]) w := by kernel_rfl
end

set_option maxRecDepth 1000000 in
set_option maxHeartbeats 4000000 in
theorem check_blob (a : Option Addr) (n c : Nat) (w : World) :
    Calls Tryz.prog 60 #[.iface 133 (.agg #[.slice a n c])] w fun e w' => e = .returned (.int .i64 (if 4096 < n then 3 else 0)) ∧ Below w.heap.size w w' := by
  have q := ta_bb (.agg #[.slice a n c])
  by_cases h : 4096 < n
  · have h' : (4096 : Int) < (n : Int) := by omega
    rw [if_pos h]
    go_enter Tryz.func60, Tryz.ntmps60
    go_wp2
    go_ret
    exact ⟨rfl, (Below.refl _ _).alloc (Nat.le_refl _) _⟩
  · have h' : ¬ (4096 : Int) < (n : Int) := by omega
    rw [if_neg h]
    go_enter Tryz.func60, Tryz.ntmps60
    go_wp2
    go_ret
    exact ⟨rfl, (Below.refl _ _).alloc (Nat.le_refl _) _⟩

set_option maxRecDepth 1000000 in
set_option maxHeartbeats 4000000 in
theorem check_nil (w : World) :
    Calls Tryz.prog 60 #[.nilIface] w fun e w' => e = .returned (.int .i64 160) ∧ Below w.heap.size w w' := by
  have q1 := ta_nb
  have q2 := ta_nt
  have q3 := ta_nc
  go_enter Tryz.func60, Tryz.ntmps60
  go_wp2
  go_ret
  exact ⟨rfl, (Below.refl _ _)⟩

set_option maxRecDepth 1000000 in
set_option maxHeartbeats 4000000 in
theorem check_tree (l : List (ByteArray × Bool × Int)) (v : Value) (w : World) (hsz : ∀ x ∈ l, x.1.size ≤ 1000000000) (hlen : l.length ≤ 1000000000) (hv : EntsAt w v l) :
    Calls Tryz.prog 60 #[.iface 136 (.agg #[v])] w fun e w' => e = .returned (.int .i64 (treeF l)) ∧ Below w.heap.size w w' := by
  obtain ⟨av, nv, cv, rfl⟩ : ∃ av nv cv, v = .slice av nv cv := by
    rcases hv with ⟨b, c, h1, _⟩ | ⟨h1, h2⟩
    · exact ⟨_, _, _, h1⟩
    · exact ⟨_, _, _, h1⟩
  have q1 := ta_tb (.agg #[.slice av nv cv])
  have q2 := ta_tt (.agg #[.slice av nv cv])
  go_enter Tryz.func60, Tryz.ntmps60
  go_wp2_with (fail)
  have hB : Below w.heap.size w (w.alloc (Obj.cells #[.slice av nv cv] 136)) := (Below.refl _ _).alloc (Nat.le_refl _) _
  refine (tree_any l _ _ hsz hlen (hv.below hB)).mono ?_
  rintro e w2 ⟨rfl, hB2⟩
  go_wp2
  go_ret
  exact ⟨rfl, hB.trans (hB2.mono hB.size)⟩

set_option maxRecDepth 1000000 in
set_option maxHeartbeats 4000000 in
theorem check_commit (tr : Int) (ps : List Int) (vp : Value) (a t : ByteArray) (d : Int) (w : World) (hp : NumsAt w vp ps) (hlen : ps.length ≤ 1000000000) :
    Calls Tryz.prog 60 #[.iface 140 (.agg #[.int .u64 tr, vp, .string a, .int .i64 d, .string t])] w fun e w' => e = .returned (.int .i64 (commitF tr ps a t)) ∧ Below w.heap.size w w' := by
  obtain ⟨av, nv, cv, rfl⟩ : ∃ av nv cv, vp = .slice av nv cv := by
    rcases hp with ⟨b, o, c, h1, _⟩ | ⟨h1, h2⟩
    · exact ⟨_, _, _, h1⟩
    · exact ⟨_, _, _, h1⟩
  have q1 := ta_cb (.agg #[.int .u64 tr, .slice av nv cv, .string a, .int .i64 d, .string t])
  have q2 := ta_ct (.agg #[.int .u64 tr, .slice av nv cv, .string a, .int .i64 d, .string t])
  have q3 := ta_cc (.agg #[.int .u64 tr, .slice av nv cv, .string a, .int .i64 d, .string t])
  go_enter Tryz.func60, Tryz.ntmps60
  go_wp2_with (fail)
  have hB : Below w.heap.size w (w.alloc (Obj.cells #[.int .u64 tr, .slice av nv cv, .string a, .int .i64 d, .string t] 140)) := (Below.refl _ _).alloc (Nat.le_refl _) _
  refine (commit_any tr ps _ a t d _ (hp.below hB) hlen).mono ?_
  rintro e w2 ⟨rfl, hB2⟩
  go_wp2
  go_ret
  exact ⟨rfl, hB.trans (hB2.mono hB.size)⟩
end Go.Proofs

namespace Go.Proofs
open Go.Shelf Go.RowKit Go.Lib
variable {I : Nat → Prop}

theorem Rd.only' {w : World} {r : Nat} {l : List UInt8} {e : Int} (h : Rd w r I l e) : ∃ v, RdAt w r v e ∧ BytesOff w r I v l := h

theorem byte_first (l : List UInt8) (k : Int) (hb : (byteF l 0).1 = k) (hk : k ≠ 0) : byteF l 0 = (k, l.drop 1, 0) ∧ (l.drop 1).length < l.length := by
  cases l with
  | nil => simp [byteF] at hb; exact absurd hb.symm hk
  | cons x l =>
    simp only [byteF, if_pos] at hb ⊢
    exact ⟨by rw [hb]; rfl, by simp⟩

/-- What Decode answers where it is no object: nil, ErrBroken. -/
def decNo : Ending := .returned (.tuple #[.nilIface, .int .i64 8])

set_option maxRecDepth 1000000 in
set_option maxHeartbeats 4000000 in
theorem dec_blob (r0 : Nat) (l : List UInt8) (v : Value) (w : World) (h : BytesOff w r0 I v l) (h0 : 0 < w.heap.size) (hl : l.length ≤ 1000000000) (hb : (byteF l 0).1 = 98) :
    Calls Tryz.prog 24 #[v] w fun e w' => (∃ x, e = .returned (.tuple #[x, .int .i64 (if 4096 < (l.drop 1).length then 8 else 0)])) ∧ Below w.heap.size w w' := by
  obtain ⟨hbe, hlen⟩ := byte_first l 98 hb (by decide)
  generalize l.drop 1 = l1 at hbe hlen ⊢
  obtain ⟨E, hE⟩ : ∃ E : Int, E = if 4096 < l1.length then 8 else 0 := ⟨_, rfl⟩
  rw [← hE]
  have HE := Hid.mk' hE
  clear hE
  have H := Hid.mk' h
  clear h hb
  go_enter Tryz.func24, Tryz.ntmps24
  go_wp2_with (fail)
  refine (read_any r0 _ v w H.out h0 hl).mono ?_
  rintro e w1 ⟨r, rfl, hr0, hr1, hr, hB⟩
  go_wp2_with (fail)
  refine (byte_any r _ 0 w1 hr).mono ?_
  rintro e w2 ⟨rfl, hr2, ho2⟩
  rw [hbe] at hr2 ⊢
  simp only at hr2 ⊢
  go_wp2_with (fail)
  refine (left_any r _ 0 w2 hr2).mono ?_
  rintro e w3 ⟨rfl, rfl⟩
  go_wp2_with (fail)
  refine (raw_all r _ _ hr2 (fun k hk => by rw [ho2.size]; exact hk.2) (by omega)).mono ?_
  rintro e w4 ⟨hr4, ht4, a4, c4, rfl⟩
  have hB2 : Below w.heap.size w w3 := hB.trans (ho2.under hr0)
  have hB4 : Below w.heap.size w w4 := hB2.trans (ht4.toBelow hB2.size (fun k _ e => by rw [e]; exact hr0))
  go_wp2_with (fail)
  refine (end_any r _ 0 w4 hr4).mono ?_
  rintro e w5 ⟨rfl, rfl⟩
  simp only [endF, if_pos, List.length_nil, Nat.lt_irrefl, if_false]
  go_wp2_with (fail)
  refine (check_blob a4 l1.length c4 w5).mono ?_
  rintro e w6 ⟨rfl, hB6⟩
  by_cases h : 4096 < l1.length
  · rw [if_pos h]
    have HE2 := HE.out
    rw [if_pos h] at HE2
    subst HE2
    clear h
    go_wp2_with (fail)
    go_ret2
    exact ⟨⟨_, rfl⟩, hB4.trans (hB6.mono hB4.size)⟩
  · rw [if_neg h]
    have HE2 := HE.out
    rw [if_neg h] at HE2
    subst HE2
    clear h
    go_wp2_with (fail)
    go_ret2
    exact ⟨⟨_, rfl⟩, hB4.trans (hB6.mono hB4.size)⟩

set_option maxRecDepth 1000000 in
set_option maxHeartbeats 4000000 in
theorem dec_none (r0 : Nat) (l : List UInt8) (v : Value) (w : World) (h : BytesOff w r0 I v l) (h0 : 0 < w.heap.size) (hl : l.length ≤ 1000000000) (hb : (byteF l 0).1 ≠ 98) (ht : (byteF l 0).1 ≠ 116) (hc : (byteF l 0).1 ≠ 99) :
    Calls Tryz.prog 24 #[v] w fun e w' => (∃ x, e = .returned (.tuple #[x, .int .i64 8])) ∧ Below w.heap.size w w' := by
  have H := Hid.mk' h
  clear h
  go_enter Tryz.func24, Tryz.ntmps24
  go_wp2_with (fail)
  refine (read_any r0 _ v w H.out h0 hl).mono ?_
  rintro e w1 ⟨r, rfl, hr0, hr1, hr, hB⟩
  go_wp2_with (fail)
  refine (byte_any r _ 0 w1 hr).mono ?_
  rintro e w2 ⟨rfl, hr2, ho2⟩
  have hB2 : Below w.heap.size w w2 := hB.trans (ho2.under hr0)
  generalize byteF l 0 = bb at hb ht hc hr2 ⊢
  obtain ⟨b1, l1, e1⟩ := bb
  simp only at hb ht hc hr2 ⊢
  have hb' : (b1 == 98) = false := by simpa using hb
  have ht' : (b1 == 116) = false := by simpa using ht
  have hc' : (b1 == 99) = false := by simpa using hc
  clear hb ht hc
  go_wp2_with (fail)
  refine (end_any r _ _ w2 hr2).mono ?_
  rintro e w5 ⟨rfl, rfl⟩
  by_cases he : endF l1 e1 = 0
  · rw [he]
    go_wp2_with (fail)
    refine (check_nil w5).mono ?_
    rintro e w6 ⟨rfl, hB6⟩
    go_wp2_with (fail)
    go_ret2
    exact ⟨⟨_, rfl⟩, hB2.trans (hB6.mono hB2.size)⟩
  · have he' : (endF l1 e1 == 0) = false := by simpa using he
    go_wp2_with (fail)
    go_ret2
    exact ⟨⟨_, rfl⟩, hB2⟩
end Go.Proofs

namespace Go.Proofs
open Go.Shelf Go.RowKit Go.Lib
variable {I : Nat → Prop}

abbrev Ent := ByteArray × Bool × Int
def entCells (es : List Ent) : List Value := es.flatMap fun x => [.string x.1, .bool x.2.1, .int .u64 x.2.2]
theorem entCells_len (es : List Ent) : (entCells es).length = es.length * 3 := by
  induction es with
  | nil => rfl
  | cons x es ih => simp only [entCells, List.flatMap_cons, List.length_append, List.length_cons, List.length_nil] at ih ⊢; omega
theorem entCells_get : ∀ (es : List Ent) (i : Nat) (x : Ent), es[i]? = some x → (entCells es)[i * 3]? = some (.string x.1) ∧ (entCells es)[i * 3 + 1]? = some (.bool x.2.1) ∧ (entCells es)[i * 3 + 2]? = some (.int .u64 x.2.2)
  | [], i, x, h => by simp at h
  | y :: es, 0, x, h => by
    obtain rfl : y = x := by simpa using h
    exact ⟨rfl, rfl, rfl⟩
  | y :: es, i + 1, x, h => by
    have ih := entCells_get es i x (by simpa using h)
    have e : entCells (y :: es) = .string y.1 :: .bool y.2.1 :: .int .u64 y.2.2 :: entCells es := rfl
    have e0 : (i + 1) * 3 = i * 3 + 3 := by omega
    rw [e, e0]
    exact ih
theorem entCells_snoc (es : List Ent) (x : Ent) : entCells (es ++ [x]) = entCells es ++ [.string x.1, .bool x.2.1, .int .u64 x.2.2] := by
  simp [entCells, List.flatMap_append]

theorem ents_of_own {w : World} {B : Nat} {v : Value} {es : List Ent} (h : w.ownsRow B 138 3 v es.length (entCells es)) : EntsAt w v es := by
  have h' := h
  obtain ⟨h1, h2⟩ := h
  rcases h2 with ⟨rfl, hn⟩ | ⟨g, cap, cur, rfl, hg, hh, hc, hm, hs, ht⟩
  · exact .inr ⟨rfl, List.eq_nil_of_length_eq_zero hn⟩
  · refine .inl ⟨g, cap, rfl, hc, (Array.getElem?_eq_some_iff.1 hh).1, fun i x hx => ?_⟩
    have hcell := h'.cells (g := g) rfl
    obtain ⟨a, b, c⟩ := entCells_get es i x hx
    have A := hcell _ _ a
    have B := hcell _ _ b
    have C := hcell _ _ c
    rw [Addr.add_lit, Nat.zero_add] at A B C
    exact ⟨A, B, C⟩

theorem textF_len (l : List UInt8) (most : Nat) (e : Int) : (textF l most e).1.length ≤ most := by
  unfold textF
  split
  · simp only
    split
    · split
      · simp
      · split
        · simp
        · simp only [List.length_take]; omega
    · simp
  · simp
theorem textOf_size (l : List UInt8) : (textOf l).size = l.length := by simp [textOf, ByteArray.size]

def live (e : Int) : Nat := if e = 0 then 1 else 0
theorem numF_pos : ∀ (l : List UInt8) (k : Nat) (x : Int), (numF l k x).2.2 = 0 → 1 ≤ (numF l k x).2.1
  | [], k, x => by simp [numF]
  | c :: l, k, x => by
    have ih := numF_pos l (k + 1) (nstep x k c)
    rw [numF_cons]
    split
    · simp
    · split
      · intro _; simp only; omega
      · exact ih
theorem textF_left (l : List UInt8) (most : Nat) (e : Int) (h : e = 0) : (textF l most e).2.1.length + live (textF l most e).2.2 ≤ l.length := by
  subst h
  have h1 := numF_pos l 0 0
  have h2 := numF_ok l 0 0
  unfold textF
  rw [if_pos rfl]
  simp only
  split
  · rename_i h3
    have h1 := h1 h3
    have h2 := h2.2 h3
    split
    · simp [live]
    · split
      · simp [live]
      · simp only [List.length_drop, live]
        simp
        omega
  · rename_i h3
    simp [live, h3]
theorem byteF_left (l : List UInt8) (e : Int) : (byteF l e).2.1.length + live (byteF l e).2.2 ≤ l.length + live e := by
  unfold byteF
  split
  · rename_i h
    subst h
    cases l <;> simp [live]
  · rename_i h
    simp [live, h]
theorem wordF_left (l : List UInt8) (e : Int) : (wordF l e).2.1.length + live (wordF l e).2.2 ≤ l.length + live e := by
  unfold wordF
  split
  · rename_i h
    subst h
    split
    · simp [live]
    · simp only [List.length_drop, live]; omega
  · rename_i h
    simp [live, h]
theorem uintF_left (l : List UInt8) (e : Int) : (uintF l e).2.1.length + live (uintF l e).2.2 ≤ l.length + live e := by
  unfold uintF
  split
  · rename_i h
    subst h
    simp only
    split
    · simp only [List.length_drop, live]; omega
    · rename_i h3; simp [live, h3]
  · rename_i h
    simp [live, h]
theorem uintF_range (l : List UInt8) (e : Int) : 0 ≤ (uintF l e).1 ∧ (uintF l e).1 < 18446744073709551616 := by
  have h := numF_range l 0 0
  unfold uintF
  split
  · simp only
    split
    · rename_i h3; exact h h3
    · simp
  · simp
theorem textF_mono (l : List UInt8) (most : Nat) (e : Int) : (textF l most e).2.1.length + live (textF l most e).2.2 ≤ l.length + live e := by
  by_cases h : e = 0
  · have := textF_left l most e h; omega
  · unfold textF; rw [if_neg h]; exact Nat.le_refl _

/-- The entries of a tree: none: no object; else they, what is left, the error. -/
def treeL : Nat → List UInt8 → Int → Int → List Ent → Option (List Ent × List UInt8 × Int)
  | 0, l, e, _, es => some (es, l, e)
  | f + 1, l, e, n, es =>
    if 0 < n ∧ e = 0 then
      if (byteF (textF l 32 e).2.1 (textF l 32 e).2.2).1 = 0 ∨ (byteF (textF l 32 e).2.1 (textF l 32 e).2.2).1 = 1 then
        treeL f (wordF (byteF (textF l 32 e).2.1 (textF l 32 e).2.2).2.1 (byteF (textF l 32 e).2.1 (textF l 32 e).2.2).2.2).2.1
          (wordF (byteF (textF l 32 e).2.1 (textF l 32 e).2.2).2.1 (byteF (textF l 32 e).2.1 (textF l 32 e).2.2).2.2).2.2 (n - 1)
          (es ++ [(textOf (textF l 32 e).1, (byteF (textF l 32 e).2.1 (textF l 32 e).2.2).1 == 1, (wordF (byteF (textF l 32 e).2.1 (textF l 32 e).2.2).2.1 (byteF (textF l 32 e).2.1 (textF l 32 e).2.2).2.2).1)])
      else none
    else some (es, l, e)

/-- What the reader has left yet, read off the world: for a loop's measure. -/
def rdLeft (w : World) (r : Nat) : Nat := match w.cell? ⟨r, 1, none⟩, w.cell? ⟨r, 2, none⟩ with | some (.slice _ n _), some (.int _ e) => n + live e | _, _ => 0
theorem rdLeft_eq {w : World} {r : Nat} {l : List UInt8} {e : Int} (h : Rd w r I l e) : rdLeft w r = l.length + live e := by
  obtain ⟨v, h1, h2⟩ := h
  obtain ⟨a, c, rfl⟩ := h2.len
  simp [rdLeft, h1.h1, h1.h2]
end Go.Proofs

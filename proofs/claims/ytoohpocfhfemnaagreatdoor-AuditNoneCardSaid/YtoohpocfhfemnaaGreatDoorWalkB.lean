/- A part of the proof of AuditNone: the runs of the document's example and of the law's body, and facts of the row. Conditions: none. -/
import Derived.Test.YtoohpocfhfemnaaGreatDoorWalkA
import Derived.Laws.Shifts
import Derived.OwnWalk
namespace Go.Proofs
open Go.RowKit Go.Lib

/-- One round of the number. -/
def nstep (x : Int) (k : Nat) (c : UInt8) : Int := bits BinOp.or IntKind.u64 x (IntKind.u64.wrap (IntKind.u64.wrap (bits BinOp.and IntKind.u8 (c.toNat : Int) 127) * 2 ^ (7 * k)))
def numF : List UInt8 → Nat → Int → Int × Int × Int
  | [], _, _ => (0, 0, 110)
  | c :: l, k, x => if (k = 9 ∧ 1 < c.toNat) ∨ (0 < k ∧ c.toNat = 0) then (0, 0, 8) else if c.toNat < 128 then (nstep x k c, (k : Int) + 1, 0) else numF l (k + 1) (nstep x k c)
theorem numF_cons (c : UInt8) (l : List UInt8) (k : Nat) (x : Int) : numF (c :: l) k x = if (k = 9 ∧ 1 < c.toNat) ∨ (0 < k ∧ c.toNat = 0) then (0, 0, 8) else if c.toNat < 128 then (nstep x k c, (k : Int) + 1, 0) else numF l (k + 1) (nstep x k c) := rfl
/-- What the number answers. -/
def numE (r : Int × Int × Int) : Ending := .returned (.tuple #[.int .u64 r.1, .int .i64 r.2.1, .int .i64 r.2.2])

set_option maxRecDepth 1000000 in
set_option maxHeartbeats 2000000 in
theorem number_any (l : List UInt8) (v : Value) (w : World) (hv : BytesAt w v l) (hlen : l.length ≤ 1000000000) : Calls Tryz.prog 86 #[v] w fun e w' => e = numE (numF l 0 0) ∧ w' = w := by
  rcases hv with ⟨b, o, c, rfl, hc, hb, hl⟩ | ⟨rfl, rfl⟩
  · go_enter Tryz.func86, Tryz.ntmps86
    go_wp2
    go_loopw [5, 6, 7, 10] (fun x i0 c0 i wr => ∃ (k : Nat) (xx : Int), i = .int .i64 (k : Int) ∧ x = .int .u64 xx ∧ numF (l.drop k) k xx = numF l 0 0 ∧ k ≤ l.length ∧ k ≤ 9 ∧ wr = w) (fun _ _ _ i _ => l.length - (RowKit.intOf i).toNat)
    case atStart => exact ⟨0, _, rfl, rfl, rfl, by omega, by omega, rfl⟩
    case round =>
      obtain ⟨k, xx, rfl, rfl, hn, hk, hk10, rfl⟩ := hrel
      by_cases hlt : k < l.length
      · obtain ⟨x, hx⟩ : ∃ x, l[k]? = some x := ⟨_, List.getElem?_eq_getElem hlt⟩
        have hcx := hl k x hx
        have hlt' : (k : Int) < (l.length : Int) := by omega
        have hw : wrap64 ((k : Int) + 1) = ((k + 1 : Nat) : Int) := by simp only [wrap64]; omega
        have hn2 := hn
        rw [List.drop_eq_getElem_cons hlt] at hn
        have hxk : l[k] = x := by rw [List.getElem?_eq_getElem hlt] at hx; exact Option.some.inj hx
        rw [hxk, numF_cons] at hn
        by_cases h9 : k = 9
        · subst h9
          by_cases b2 : 1 < x.toNat
          · rw [if_pos (Or.inl ⟨rfl, b2⟩)] at hn
            have b2' : (1 : Int) < (x.toNat : Int) := by omega
            go_wp2
            go_ret3
            exact ⟨by rw [← hn]; rfl, rfl⟩
          · have b2' : ¬ (1 : Int) < (x.toNat : Int) := by omega
            by_cases b3 : x.toNat = 0
            · rw [if_pos (Or.inr ⟨by omega, b3⟩)] at hn
              have b3' : (x.toNat : Int) = 0 := by omega
              go_wp2
              go_ret3
              exact ⟨by rw [← hn]; rfl, rfl⟩
            · have b3' : ¬ (x.toNat : Int) = 0 := by omega
              rw [if_neg (by omega), if_pos (by omega)] at hn
              have b4 : (x.toNat : Int) < 128 := by omega
              go_wp2
              go_ret3
              exact ⟨by rw [← hn]; rfl, rfl⟩
        · have h9' : ¬ (k : Int) = 9 := by omega
          by_cases bad : 0 < k ∧ x.toNat = 0
          · rw [if_pos (Or.inr bad)] at hn
            have b1 : (0 : Int) < (k : Int) := by omega
            have b3' : (x.toNat : Int) = 0 := by omega
            go_wp2
            go_ret3
            exact ⟨by rw [← hn]; rfl, rfl⟩
          · rw [if_neg (by omega)] at hn
            have hk9 : k ≤ 8 := by omega
            have hm : wrap64 (7 * (k : Int)) = ((7 * k : Nat) : Int) := by simp only [wrap64]; omega
            have hm2 : (0 : Int) ≤ ((7 * k : Nat) : Int) := by omega
            have hm3 : min (((7 * k : Nat) : Int)).toNat 64 = 7 * k := by omega
            by_cases h0 : k = 0
            · subst h0
              by_cases b4 : x.toNat < 128
              · rw [if_pos b4] at hn
                have b4' : (x.toNat : Int) < 128 := by omega
                have hcx' : wr.cell? ⟨b, o, none⟩ = some (.int .u8 (x.toNat : Int)) := hcx
                go_wp2
                go_ret3
                refine ⟨?_, rfl⟩
                rw [← hn]
                simp [nstep, numE]
              · rw [if_neg b4] at hn
                have b4' : ¬ (x.toNat : Int) < 128 := by omega
                have hcx' : wr.cell? ⟨b, o, none⟩ = some (.int .u8 (x.toNat : Int)) := hcx
                go_wp2
                refine ⟨⟨1, _, rfl, rfl, ?_, by omega, by omega, trivial⟩, by simp [RowKit.intOf]; omega⟩
                rw [← hn]
                simp [nstep]
            · have b5 : (0 : Int) < (k : Int) := by omega
              have b6 : ¬ (x.toNat : Int) = 0 := by omega
              by_cases b4 : x.toNat < 128
              · rw [if_pos b4] at hn
                have b4' : (x.toNat : Int) < 128 := by omega
                go_wp2
                go_ret3
                refine ⟨?_, rfl⟩
                rw [← hn]
                simp [nstep, numE]
              · rw [if_neg b4] at hn
                have b4' : ¬ (x.toNat : Int) < 128 := by omega
                go_wp2
                refine ⟨⟨k + 1, _, by first | rfl | simp, rfl, ?_, by omega, by omega, trivial⟩, by simp [RowKit.intOf]; omega⟩
                rw [← hn]
                simp [nstep]
      · have hge : ¬ ((k : Int) < (l.length : Int)) := by omega
        have : k = l.length := by omega
        subst this
        simp only [List.drop_length] at hn
        go_wp2
        go_ret3
        exact ⟨by rw [← hn]; rfl, rfl⟩
  · go_enter Tryz.func86, Tryz.ntmps86
    go_wp2
    refine wp_loop_once ?_
    go_wp2
    go_ret3
    exact ⟨rfl, rfl⟩
end Go.Proofs

namespace Go.Proofs
open Go.RowKit Go.Lib
variable {I : Nat → Prop}

/-- A reader: what is left, and the error. -/
structure RdAt (w : World) (r : Nat) (v : Value) (e : Int) : Prop where
  h0 : w.cell? ⟨r, 0, none⟩ = some (.bool true)
  h1 : w.cell? ⟨r, 1, none⟩ = some v
  h2 : w.cell? ⟨r, 2, none⟩ = some (.int .i64 e)
  f1 : w.frozen? ⟨r, 1, none⟩ = false
  f2 : w.frozen? ⟨r, 2, none⟩ = false

theorem RdAt.setE {w : World} {r : Nat} {v : Value} {e : Int} (h : RdAt w r v e) (e' : Int) : RdAt (w.setCell ⟨r, 2, none⟩ (.int .i64 e')) r v e' :=
  ⟨(World.cell?_setCell_other _ _ _ _ (by simp)).trans h.h0, (World.cell?_setCell_other _ _ _ _ (by simp)).trans h.h1, World.cell?_setCell_same _ _ _ h.h2, (World.frozen?_setCell _ _ _ _).trans h.f1, (World.frozen?_setCell _ _ _ _).trans h.f2⟩
theorem RdAt.setV {w : World} {r : Nat} {v : Value} {e : Int} (h : RdAt w r v e) (v' : Value) : RdAt (w.setCell ⟨r, 1, none⟩ v') r v' e :=
  ⟨(World.cell?_setCell_other _ _ _ _ (by simp)).trans h.h0, World.cell?_setCell_same _ _ _ h.h1, (World.cell?_setCell_other _ _ _ _ (by simp)).trans h.h2, (World.frozen?_setCell _ _ _ _).trans h.f1, (World.frozen?_setCell _ _ _ _).trans h.f2⟩

set_option maxRecDepth 1000000 in
set_option maxHeartbeats 2000000 in
theorem ready_ok (r : Nat) (v : Value) (e : Int) (w : World) (h : RdAt w r v e) : Calls Tryz.prog 84 #[.pointer (some ⟨r, 0, none⟩)] w fun x w' => x = .returned (.bool (e == 0)) ∧ w' = w := by
  obtain ⟨h0, h1, h2, f1, f2⟩ := h
  go_enter Tryz.func84, Tryz.ntmps84
  go_wp2
  go_ret
  exact ⟨rfl, rfl⟩

set_option maxRecDepth 1000000 in
set_option maxHeartbeats 2000000 in
theorem refuse_ok (r : Nat) (v : Value) (e e' : Int) (w : World) (h : RdAt w r v e) : Calls Tryz.prog 85 #[.pointer (some ⟨r, 0, none⟩), .int .i64 e'] w fun x w' => x = .returned (.tuple #[]) ∧ w' = w.setCell ⟨r, 2, none⟩ (.int .i64 e') := by
  obtain ⟨h0, h1, h2, f1, f2⟩ := h
  go_enter Tryz.func85, Tryz.ntmps85
  go_wp2
  go_end0
  exact ⟨rfl, rfl⟩

/-- Only cells of this block are set. -/
inductive Only (r : Nat) (w : World) : World → Prop where
  | refl : Only r w w
  | set {w' : World} (h : Only r w w') (k : Nat) (x : Value) : Only r w (w'.setCell ⟨r, k, none⟩ x)
theorem Only.trans {r : Nat} {w w' w2 : World} (h : Only r w w') (h2 : Only r w' w2) : Only r w w2 := by
  induction h2 with
  | refl => exact h
  | set _ k x ih => exact ih.set k x
theorem Only.cell {r : Nat} {w w' : World} (h : Only r w w') {b o : Nat} (hb : b ≠ r) : w'.cell? ⟨b, o, none⟩ = w.cell? ⟨b, o, none⟩ := by
  induction h with
  | refl => rfl
  | set _ k x ih => exact (World.cell?_setCell_other _ _ _ _ (by simp)).trans ih
theorem Only.frozen {r : Nat} {w w' : World} (h : Only r w w') (a : Addr) : w'.frozen? a = w.frozen? a := by
  induction h with
  | refl => rfl
  | set _ k x ih => exact (World.frozen?_setCell _ _ _ _).trans ih
theorem Only.size {r : Nat} {w w' : World} (h : Only r w w') : w'.heap.size = w.heap.size := by
  induction h with
  | refl => rfl
  | set _ k x ih => simpa using ih
/-- Bytes that do not lie in this block. -/
def BytesOff (w : World) (r : Nat) (I : Nat → Prop) (v : Value) (l : List UInt8) : Prop :=
  (∃ b o c, v = .slice (some ⟨b, o, none⟩) l.length c ∧ l.length ≤ c ∧ c ≤ maxLen ∧ (I b ∧ b < w.heap.size) ∧ b ≠ r ∧ ∀ i x, l[i]? = some x → w.cell? ⟨b, o + i, none⟩ = some (.int .u8 (x.toNat : Int))) ∨ (v = .slice none 0 0 ∧ l = [])
theorem BytesOff.at {w : World} {r : Nat} {v : Value} {l : List UInt8} (h : BytesOff w r I v l) : BytesAt w v l := by
  rcases h with ⟨b, o, c, h1, h2, _, h3, _, h4⟩ | h
  · exact .inl ⟨b, o, c, h1, h2, h3.2, h4⟩
  · exact .inr h
theorem BytesOff.only {w w' : World} {r : Nat} {v : Value} {l : List UInt8} (h : BytesOff w r I v l) (ho : Only r w w') : BytesOff w' r I v l := by
  rcases h with ⟨b, o, c, h1, h2, h5, h3, h6, h4⟩ | h
  · exact .inl ⟨b, o, c, h1, h2, h5, ⟨h3.1, by rw [ho.size]; exact h3.2⟩, h6, fun i x hx => by rw [ho.cell h6]; exact h4 i x hx⟩
  · exact .inr h
/-- A reader by what is left. -/
def Rd (w : World) (r : Nat) (I : Nat → Prop) (l : List UInt8) (e : Int) : Prop := ∃ v, RdAt w r v e ∧ BytesOff w r I v l
theorem Rd.setE {w : World} {r : Nat} {l : List UInt8} {e : Int} (h : Rd w r I l e) (e' : Int) : Rd (w.setCell ⟨r, 2, none⟩ (.int .i64 e')) r I l e' := by
  obtain ⟨v, h1, h2⟩ := h
  exact ⟨v, h1.setE e', h2.only (.set .refl 2 _)⟩

set_option maxRecDepth 1000000 in
set_option maxHeartbeats 2000000 in
theorem take_any (r n : Nat) (l : List UInt8) (e : Int) (w : World) (h : Rd w r I l e) (hn : n ≤ l.length) : Calls Tryz.prog 87 #[.pointer (some ⟨r, 0, none⟩), .int .i64 n] w fun x w' => Rd w' r I (l.drop n) e ∧ Only r w w' ∧ ∃ v, x = .returned v ∧ BytesOff w' r I v (l.take n) := by
  obtain ⟨v, ⟨h0, h1, h2, f1, f2⟩, hv⟩ := h
  have hrd : RdAt w r v e := ⟨h0, h1, h2, f1, f2⟩
  rcases hv with ⟨b, o, c, rfl, hc, hcl, hb, hbr, hl⟩ | ⟨rfl, rfl⟩
  · have ht : ∀ i x, (l.take n)[i]? = some x → w.cell? ⟨b, o + i, none⟩ = some (.int .u8 (x.toNat : Int)) := fun i x hx => by
      rw [List.getElem?_take] at hx
      split at hx
      · exact hl i x hx
      · cases hx
    have hd : ∀ i x, (l.drop n)[i]? = some x → w.cell? ⟨b, o + n + i, none⟩ = some (.int .u8 (x.toNat : Int)) := fun i x hx => by
      rw [List.getElem?_drop] at hx
      rw [Nat.add_assoc]
      exact hl _ x hx
    have htl : (l.take n).length = n := by rw [List.length_take]; omega
    have htw : BytesOff w r I (.slice (some ⟨b, o, none⟩) n n) (l.take n) := .inl ⟨b, o, n, by rw [htl], by omega, by omega, hb, hbr, ht⟩
    go_enter Tryz.func87, Tryz.ntmps87
    go_wp2
    · go_ret
      have hl0 : l.length - n = 0 := by omega
      refine ⟨⟨_, hrd.setV _, BytesOff.only (.inl ⟨b, o, 0, by rw [List.length_drop], by rw [List.length_drop]; omega, by omega, hb, hbr, fun i x hx => ?_⟩) (.set .refl 1 _)⟩, .set .refl 1 _, _, rfl, htw.only (.set .refl 1 _)⟩
      have : (l.drop n) = [] := List.eq_nil_of_length_eq_zero (by rw [List.length_drop]; exact hl0)
      rw [this] at hx
      cases hx
    · go_ret
      exact ⟨⟨_, hrd.setV _, BytesOff.only (.inl ⟨b, o + n, c - n, by rw [List.length_drop], by rw [List.length_drop]; omega, by omega, hb, hbr, hd⟩) (.set .refl 1 _)⟩, .set .refl 1 _, _, rfl, htw.only (.set .refl 1 _)⟩
  · obtain rfl : n = 0 := by simpa using hn
    go_enter Tryz.func87, Tryz.ntmps87
    go_wp2
    go_ret
    exact ⟨⟨_, hrd.setV _, .inr ⟨rfl, rfl⟩⟩, .set .refl 1 _, _, rfl, .inr ⟨rfl, rfl⟩⟩
end Go.Proofs

namespace Go.Proofs
open Go.RowKit Go.Lib
variable {I : Nat → Prop}

theorem BytesOff.len {w : World} {r : Nat} {v : Value} {l : List UInt8} (h : BytesOff w r I v l) : ∃ a c, v = .slice a l.length c := by
  rcases h with ⟨b, o, c, rfl, _⟩ | ⟨rfl, rfl⟩
  · exact ⟨_, _, rfl⟩
  · exact ⟨_, _, rfl⟩

set_option maxRecDepth 1000000 in
set_option maxHeartbeats 2000000 in
theorem left_any (r : Nat) (l : List UInt8) (e : Int) (w : World) (h : Rd w r I l e) : Calls Tryz.prog 46 #[.pointer (some ⟨r, 0, none⟩)] w fun x w' => x = .returned (.int .i64 l.length) ∧ w' = w := by
  obtain ⟨v, ⟨h0, h1, h2, f1, f2⟩, hv⟩ := h
  obtain ⟨a, c, rfl⟩ := hv.len
  go_enter Tryz.func46, Tryz.ntmps46
  go_wp2
  go_ret
  exact ⟨rfl, rfl⟩

set_option maxRecDepth 1000000 in
set_option maxHeartbeats 2000000 in
theorem err_any (r : Nat) (l : List UInt8) (e : Int) (w : World) (h : Rd w r I l e) : Calls Tryz.prog 49 #[.pointer (some ⟨r, 0, none⟩)] w fun x w' => x = .returned (.int .i64 e) ∧ w' = w := by
  obtain ⟨v, ⟨h0, h1, h2, f1, f2⟩, hv⟩ := h
  go_enter Tryz.func49, Tryz.ntmps49
  go_wp2
  go_ret
  exact ⟨rfl, rfl⟩

/-- The error, also where bytes are left. -/
def endF (l : List UInt8) (e : Int) : Int := if e = 0 then if 0 < l.length then 111 else 0 else e
set_option maxRecDepth 1000000 in
set_option maxHeartbeats 2000000 in
theorem end_any (r : Nat) (l : List UInt8) (e : Int) (w : World) (h : Rd w r I l e) : Calls Tryz.prog 59 #[.pointer (some ⟨r, 0, none⟩)] w fun x w' => x = .returned (.int .i64 (endF l e)) ∧ w' = w := by
  obtain ⟨v, ⟨h0, h1, h2, f1, f2⟩, hv⟩ := h
  obtain ⟨a, c, rfl⟩ := hv.len
  unfold endF
  by_cases he : e = 0
  · subst he
    by_cases hl : 0 < l.length
    · have hl' : (0 : Int) < (l.length : Int) := by omega
      rw [if_pos rfl, if_pos hl]
      go_enter Tryz.func59, Tryz.ntmps59
      go_wp2
      go_ret
      exact ⟨rfl, rfl⟩
    · have hl' : ¬ (0 : Int) < (l.length : Int) := by omega
      rw [if_pos rfl, if_neg hl]
      go_enter Tryz.func59, Tryz.ntmps59
      go_wp2
      go_ret
      exact ⟨rfl, rfl⟩
  · rw [if_neg he]
    go_enter Tryz.func59, Tryz.ntmps59
    go_wp2
    go_ret
    exact ⟨rfl, rfl⟩
end Go.Proofs

namespace Go.Proofs
open Go.RowKit Go.Lib
variable {I : Nat → Prop}

theorem ready_yes (r : Nat) (v : Value) (w : World) (h : RdAt w r v 0) : Calls Tryz.prog 84 #[.pointer (some ⟨r, 0, none⟩)] w fun x w' => x = .returned (.bool true) ∧ w' = w := ready_ok r v 0 w h
theorem ready_no (r : Nat) (v : Value) (e : Int) (w : World) (h : RdAt w r v e) (he : e ≠ 0) : Calls Tryz.prog 84 #[.pointer (some ⟨r, 0, none⟩)] w fun x w' => x = .returned (.bool false) ∧ w' = w := by
  have := ready_ok r v e w h
  rw [show (e == 0) = false by simpa using he] at this
  exact this

def byteF (l : List UInt8) (e : Int) : Int × List UInt8 × Int := if e = 0 then match l with | [] => (0, [], 110) | x :: l => ((x.toNat : Int), l, 0) else (0, l, e)

set_option maxRecDepth 1000000 in
set_option maxHeartbeats 2000000 in
theorem byte_any (r : Nat) (l : List UInt8) (e : Int) (w : World) (h : Rd w r I l e) : Calls Tryz.prog 56 #[.pointer (some ⟨r, 0, none⟩)] w fun x w' => x = .returned (.int .u8 (byteF l e).1) ∧ Rd w' r I (byteF l e).2.1 (byteF l e).2.2 ∧ Only r w w' := by
  have hh := h
  obtain ⟨v, ⟨h0, h1, h2, f1, f2⟩, hv⟩ := h
  have hrd : RdAt w r v e := ⟨h0, h1, h2, f1, f2⟩
  unfold byteF
  by_cases he : e = 0
  · subst he
    rw [if_pos rfl]
    cases l with
    | nil =>
      obtain ⟨a, c, rfl⟩ := hv.len
      simp only [List.length_nil] at h1 hrd hv
      go_enter Tryz.func56, Tryz.ntmps56
      go_wp2_with (fail)
      refine (ready_yes r _ w hrd).mono fun x w' hq => ?_
      obtain ⟨rfl, rfl⟩ := hq
      go_wp2_with (fail)
      refine (refuse_ok r _ 0 110 _ hrd).mono fun x w2 hq => ?_
      obtain ⟨rfl, rfl⟩ := hq
      go_wp2
      go_ret
      exact ⟨rfl, Rd.setE ⟨_, hrd, hv⟩ 110, .set .refl 2 _⟩
    | cons x l =>
      obtain ⟨a, c, rfl⟩ := hv.len
      go_enter Tryz.func56, Tryz.ntmps56
      go_wp2_with (fail)
      refine (ready_yes r _ w hrd).mono fun x w' hq => ?_
      obtain ⟨rfl, rfl⟩ := hq
      go_wp2_with (fail)
      refine (take_any r 1 (x :: l) 0 _ hh (by simp)).mono fun y w2 hq => ?_
      obtain ⟨hr2, ho, v2, rfl, hb⟩ := hq
      rcases hb with ⟨b, o, c2, rfl, _, _, _, _, hc⟩ | ⟨_, hn⟩
      · have hcx : w2.cell? ⟨b, o, none⟩ = some (.int .u8 (x.toNat : Int)) := hc 0 x rfl
        simp only [List.take_succ_cons, List.take_zero, List.length_cons, List.length_nil]
        go_wp2
        go_ret
        exact ⟨rfl, hr2, ho⟩
      · cases hn
  · rw [if_neg he]
    go_enter Tryz.func56, Tryz.ntmps56
    go_wp2_with (fail)
    refine (ready_no r _ e w hrd he).mono fun x w' hq => ?_
    obtain ⟨rfl, rfl⟩ := hq
    go_wp2_with (fail)
    go_ret
    exact ⟨rfl, hh, .refl⟩

/-- The next number: what it is, what is left, the error. -/
def uintF (l : List UInt8) (e : Int) : Int × List UInt8 × Int := if e = 0 then (let n := numF l 0 0; if n.2.2 = 0 then (n.1, l.drop n.2.1.toNat, 0) else (0, l, n.2.2)) else (0, l, e)
theorem numF_ok : ∀ (l : List UInt8) (k : Nat) (x : Int), 0 ≤ (numF l k x).2.1 ∧ ((numF l k x).2.2 = 0 → (numF l k x).2.1 ≤ k + l.length)
  | [], k, x => by constructor <;> simp [numF]
  | c :: l, k, x => by
    have ih := numF_ok l (k + 1) (nstep x k c)
    rw [numF_cons]
    split
    · exact ⟨by simp, by simp⟩
    · split
      · exact ⟨by simp only []; omega, fun _ => by simp only [List.length_cons]; omega⟩
      · exact ⟨ih.1, fun h => by have := ih.2 h; simp only [List.length_cons]; omega⟩
set_option maxRecDepth 1000000 in
set_option maxHeartbeats 2000000 in
theorem uint_any (r : Nat) (l : List UInt8) (e : Int) (w : World) (h : Rd w r I l e) (hlen : l.length ≤ 1000000000) : Calls Tryz.prog 58 #[.pointer (some ⟨r, 0, none⟩)] w fun x w' => x = .returned (.int .u64 (uintF l e).1) ∧ Rd w' r I (uintF l e).2.1 (uintF l e).2.2 ∧ Only r w w' := by
  have hh := h
  obtain ⟨v, ⟨h0, h1, h2, f1, f2⟩, hv⟩ := h
  have hrd : RdAt w r v e := ⟨h0, h1, h2, f1, f2⟩
  unfold uintF
  by_cases he : e = 0
  · subst he
    rw [if_pos rfl]
    simp only []
    have hnum := number_any l v w hv.at hlen
    obtain ⟨hp, hle⟩ := numF_ok l 0 0
    generalize numF l 0 0 = nn at hnum hp hle ⊢
    obtain ⟨n1, n2, n3⟩ := nn
    simp only [numE] at hnum hp hle ⊢
    by_cases h3 : n3 = 0
    · subst h3
      rw [if_pos rfl]
      simp only []
      obtain ⟨m, rfl⟩ : ∃ m : Nat, n2 = m := ⟨n2.toNat, by omega⟩
      simp only [Int.toNat_natCast]
      go_enter Tryz.func58, Tryz.ntmps58
      go_wp2_with (fail)
      refine (ready_yes r _ w hrd).mono fun x w' hq => ?_
      obtain ⟨rfl, rfl⟩ := hq
      go_wp2_with (fail)
      refine hnum.mono fun x w' hq => ?_
      obtain ⟨rfl, rfl⟩ := hq
      go_wp2_with (fail)
      refine (take_any r m l 0 _ hh (by have := hle trivial; omega)).mono fun y w2 hq => ?_
      obtain ⟨hr2, ho, v2, rfl, hb⟩ := hq
      go_wp2
      go_ret
      exact ⟨rfl, hr2, ho⟩
    · rw [if_neg h3]
      simp only []
      go_enter Tryz.func58, Tryz.ntmps58
      go_wp2_with (fail)
      refine (ready_yes r _ w hrd).mono fun x w' hq => ?_
      obtain ⟨rfl, rfl⟩ := hq
      go_wp2_with (fail)
      refine hnum.mono fun x w' hq => ?_
      obtain ⟨rfl, rfl⟩ := hq
      go_wp2_with (fail)
      refine (refuse_ok r _ 0 n3 _ hrd).mono fun x w2 hq => ?_
      obtain ⟨rfl, rfl⟩ := hq
      go_wp2
      go_ret
      exact ⟨rfl, Rd.setE hh n3, .set .refl 2 _⟩
  · rw [if_neg he]
    go_enter Tryz.func58, Tryz.ntmps58
    go_wp2_with (fail)
    refine (ready_no r _ e w hrd he).mono fun x w' hq => ?_
    obtain ⟨rfl, rfl⟩ := hq
    go_wp2_with (fail)
    go_ret
    exact ⟨rfl, hh, .refl⟩
end Go.Proofs

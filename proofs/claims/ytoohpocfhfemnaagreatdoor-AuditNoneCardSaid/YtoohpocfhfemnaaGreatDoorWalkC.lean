/- A part of the proof of AuditNone: the runs of the document's example and of the law's body, and facts of the row. Conditions: none. -/
import Derived.Test.YtoohpocfhfemnaaGreatDoorWalkB
import Derived.Laws.BytesArg
namespace Go.Proofs
open Go.RowKit Go.Lib
variable {I : Nat → Prop}

/-- A text of bytes. -/
def textOf (l : List UInt8) : ByteArray := ⟨l.toArray⟩
theorem conv_text {w : World} {r : Nat} {v : Value} {l : List UInt8} (h : BytesOff w r I v l) (src e dst : TypeId) (hs : Tryz.prog.underlying src = some (.slice e)) (he : Tryz.prog.underlying e = some (.int .u8)) (hd : Tryz.prog.underlying dst = some .string) : (convert src dst v).run Tryz.prog w = .ok (.string (textOf l)) w := by
  rcases h with ⟨b, o, c, rfl, hc, hcl, hb, hbr, hl⟩ | ⟨rfl, rfl⟩
  · have := run_convert_bytes_arg (P := Tryz.prog) w src e hs he b o l.length c (l.map fun x => (x.toNat : Int)) (by simp) (fun i hi => by
      rw [hl i l[i] (List.getElem?_eq_getElem hi)]
      simp [List.getD, List.getElem?_eq_getElem hi]) dst hd
    rw [this]
    simp [strOfNums, textOf, Function.comp_def]
  · exact run_convert_bytes_nil w src e hs he 0 0 dst hd

theorem wrap_u64_range (n : Int) : 0 ≤ IntKind.u64.wrap n ∧ IntKind.u64.wrap n < 18446744073709551616 := by
  simp only [IntKind.wrap, IntKind.bits, IntKind.signed]
  constructor <;> simp <;> omega
end Go.Proofs

namespace Go.Proofs
open Go.RowKit Go.Lib

theorem numF_range : ∀ (l : List UInt8) (k : Nat) (x : Int), (numF l k x).2.2 = 0 → 0 ≤ (numF l k x).1 ∧ (numF l k x).1 < 18446744073709551616
  | [], k, x => by simp [numF]
  | c :: l, k, x => by
    have ih := numF_range l (k + 1) (nstep x k c)
    rw [numF_cons]
    split
    · simp
    · split
      · intro _
        exact wrap_u64_range _
      · exact ih

/-- The next text of at most so many bytes: the text, what is left, the error. -/
def textF (l : List UInt8) (most : Nat) (e : Int) : List UInt8 × List UInt8 × Int :=
  if e = 0 then
    (let n := numF l 0 0
     if n.2.2 = 0 then
       if (most : Int) < n.1 then ([], l, 3)
       else if ((l.length - n.2.1.toNat : Nat) : Int) < n.1 then ([], l, 110)
       else ((l.drop n.2.1.toNat).take n.1.toNat, (l.drop n.2.1.toNat).drop n.1.toNat, 0)
     else ([], l, n.2.2))
  else ([], l, e)
end Go.Proofs

namespace Go.Proofs
open Go.RowKit Go.Lib
variable {I : Nat → Prop}

set_option maxRecDepth 1000000 in
set_option maxHeartbeats 4000000 in
theorem text_any (r most : Nat) (l : List UInt8) (e : Int) (w : World) (h : Rd w r I l e) (hlen : l.length ≤ 1000000000) (hm : most ≤ 1000000000) : Calls Tryz.prog 47 #[.pointer (some ⟨r, 0, none⟩), .int .i64 most] w fun x w' => x = .returned (.string (textOf (textF l most e).1)) ∧ Rd w' r I (textF l most e).2.1 (textF l most e).2.2 ∧ Only r w w' := by
  have hh := h
  obtain ⟨v, ⟨h0, h1, h2, f1, f2⟩, hv⟩ := h
  have hrd : RdAt w r v e := ⟨h0, h1, h2, f1, f2⟩
  unfold textF
  by_cases he : e = 0
  · subst he
    rw [if_pos rfl]
    simp only []
    have hnum := number_any l v w hv.at hlen
    obtain ⟨hp, hle⟩ := numF_ok l 0 0
    have hrg := numF_range l 0 0
    have hm0 : ¬ (most : Int) < 0 := by omega
    generalize numF l 0 0 = nn at hnum hp hle hrg ⊢
    obtain ⟨n1, n2, n3⟩ := nn
    simp only [numE] at hnum hp hle hrg ⊢
    by_cases h3 : n3 = 0
    · subst h3
      rw [if_pos rfl]
      obtain ⟨m, rfl⟩ : ∃ m : Nat, n2 = m := ⟨n2.toNat, by omega⟩
      have hr1 := (hrg rfl).1
      have hr2 := (hrg rfl).2
      have hml : m ≤ l.length := by have := hle rfl; omega
      obtain ⟨k, rfl⟩ : ∃ k : Nat, n1 = k := ⟨n1.toNat, by omega⟩
      simp only [Int.toNat_natCast]
      have hwm : IntKind.u64.wrap (most : Int) = (most : Int) := by rw [IntKind.wrap_u64]; omega
      have hwk : k ≤ most → wrap64 (k : Int) = (k : Int) := fun hk => by simp only [wrap64]; omega
      clear hr2 hrg hr1 hle hp
      by_cases hx1 : (most : Int) < (k : Int)
      · rw [if_pos hx1]
        simp only []
        go_enter Tryz.func47, Tryz.ntmps47
        go_wp2_with (fail)
        refine (ready_yes r _ w hrd).mono fun x w' hq => ?_
        obtain ⟨rfl, rfl⟩ := hq
        go_wp2_with (fail)
        refine hnum.mono fun x w' hq => ?_
        obtain ⟨rfl, rfl⟩ := hq
        go_wp2_with (fail)
        refine (refuse_ok r _ 0 3 _ hrd).mono fun x w2 hq => ?_
        obtain ⟨rfl, rfl⟩ := hq
        go_wp2
        go_ret
        exact ⟨rfl, Rd.setE hh 3, .set .refl 2 _⟩
      · rw [if_neg hx1]
        obtain ⟨a, c, rfl⟩ := hv.len
        have hsub : wrap64 ((l.length : Int) - (m : Int)) = ((l.length - m : Nat) : Int) := by simp only [wrap64]; omega
        have hwd : IntKind.u64.wrap ((l.length - m : Nat) : Int) = ((l.length - m : Nat) : Int) := by rw [IntKind.wrap_u64]; omega
        have hcast : (l.length : Int) - (m : Int) = ((l.length - m : Nat) : Int) := by omega
        by_cases hx2 : ((l.length - m : Nat) : Int) < (k : Int)
        · rw [if_pos hx2]
          simp only []
          go_enter Tryz.func47, Tryz.ntmps47
          go_wp2_with (fail)
          refine (ready_yes r _ w hrd).mono fun x w' hq => ?_
          obtain ⟨rfl, rfl⟩ := hq
          go_wp2_with (fail)
          refine hnum.mono fun x w' hq => ?_
          obtain ⟨rfl, rfl⟩ := hq
          go_wp2_with (fail)
          refine (refuse_ok r _ 0 110 _ hrd).mono fun x w2 hq => ?_
          obtain ⟨rfl, rfl⟩ := hq
          go_wp2
          go_ret
          exact ⟨rfl, Rd.setE hh 110, .set .refl 2 _⟩
        · rw [if_neg hx2]
          simp only []
          have hwk2 : IntKind.i64.wrap (k : Int) = (k : Int) := by simp only [IntKind.wrap, IntKind.bits, IntKind.signed]; simp; omega
          go_enter Tryz.func47, Tryz.ntmps47
          go_wp2_with (fail)
          refine (ready_yes r _ w hrd).mono fun x w' hq => ?_
          obtain ⟨rfl, rfl⟩ := hq
          go_wp2_with (fail)
          refine hnum.mono fun x w' hq => ?_
          obtain ⟨rfl, rfl⟩ := hq
          go_wp2_with (fail)
          refine (take_any r m l 0 _ hh hml).mono fun y w2 hq => ?_
          obtain ⟨hd2, ho, v2, rfl, hb⟩ := hq
          go_wp2_with (fail)
          refine (take_any r k (l.drop m) 0 _ hd2 (by rw [List.length_drop]; omega)).mono fun y w3 hq => ?_
          obtain ⟨hd3, ho2, v3, rfl, hb3⟩ := hq
          have hcv := conv_text hb3 22 5 9 (by kernel_rfl) (by kernel_rfl) (by kernel_rfl)
          go_wp2
          go_ret
          exact ⟨rfl, hd3, ho.trans ho2⟩
    · rw [if_neg h3]
      simp only []
      clear hrg hle hp
      go_enter Tryz.func47, Tryz.ntmps47
      go_wp2_with (fail)
      refine (ready_yes r _ w hrd).mono fun x w' hq => ?_
      obtain ⟨rfl, rfl⟩ := hq
      go_wp2_with (fail)
      refine hnum.mono fun x w' hq => ?_
      obtain ⟨rfl, rfl⟩ := hq
      go_wp2_with (fail)
      refine (refuse_ok r _ 0 n3 _ hrd).mono fun x w2 hq => ?_
      obtain ⟨rfl, rfl⟩ := hq
      go_wp2
      go_ret
      exact ⟨rfl, Rd.setE hh n3, .set .refl 2 _⟩
  · rw [if_neg he]
    go_enter Tryz.func47, Tryz.ntmps47
    go_wp2_with (fail)
    refine (ready_no r _ e w hrd he).mono fun x w' hq => ?_
    obtain ⟨rfl, rfl⟩ := hq
    go_wp2_with (fail)
    go_ret
    exact ⟨rfl, hh, .refl⟩
end Go.Proofs

namespace Go.Proofs
open Go.RowKit Go.Lib
variable {I : Nat → Prop}

def wstep (x : Int) (c : UInt8) : Int := bits BinOp.or IntKind.u64 (IntKind.u64.wrap (x * 256)) (IntKind.u64.wrap (c.toNat : Int))
def wordD (l : List UInt8) : Int := l.foldl wstep 0
/-- The next number in the wide form. -/
def wordF (l : List UInt8) (e : Int) : Int × List UInt8 × Int := if e = 0 then (if l.length < 8 then (0, l, 110) else (wordD (l.take 8), l.drop 8, 0)) else (0, l, e)

set_option maxRecDepth 1000000 in
set_option maxHeartbeats 4000000 in
theorem word_any (r : Nat) (l : List UInt8) (e : Int) (w : World) (h : Rd w r I l e) : Calls Tryz.prog 48 #[.pointer (some ⟨r, 0, none⟩)] w fun x w' => x = .returned (.int .u64 (wordF l e).1) ∧ Rd w' r I (wordF l e).2.1 (wordF l e).2.2 ∧ Only r w w' := by
  have hh := h
  obtain ⟨v, ⟨h0, h1, h2, f1, f2⟩, hv⟩ := h
  have hrd : RdAt w r v e := ⟨h0, h1, h2, f1, f2⟩
  unfold wordF
  by_cases he : e = 0
  · subst he
    rw [if_pos rfl]
    obtain ⟨a, c, rfl⟩ := hv.len
    by_cases h8 : l.length < 8
    · rw [if_pos h8]
      simp only []
      have h8' : (l.length : Int) < 8 := by omega
      go_enter Tryz.func48, Tryz.ntmps48
      go_wp2_with (fail)
      refine (ready_yes r _ w hrd).mono fun x w' hq => ?_
      obtain ⟨rfl, rfl⟩ := hq
      go_wp2_with (fail)
      refine (refuse_ok r _ 0 110 _ hrd).mono fun x w2 hq => ?_
      obtain ⟨rfl, rfl⟩ := hq
      go_wp2
      go_ret
      exact ⟨rfl, Rd.setE hh 110, .set .refl 2 _⟩
    · rw [if_neg h8]
      simp only []
      have h8' : ¬ (l.length : Int) < 8 := by omega
      go_enter Tryz.func48, Tryz.ntmps48
      go_wp2_with (fail)
      refine (ready_yes r _ w hrd).mono fun x w' hq => ?_
      obtain ⟨rfl, rfl⟩ := hq
      go_wp2_with (fail)
      refine (take_any r 8 l 0 _ hh (by omega)).mono fun y w2 hq => ?_
      obtain ⟨hd2, ho, v2, rfl, hb⟩ := hq
      have ht8 : (l.take 8).length = 8 := by rw [List.length_take]; omega
      rcases hb with ⟨b, o, c2, rfl, _, _, _, _, hc⟩ | ⟨_, hn⟩
      · rw [ht8]
        go_wp2
        go_loopw [3, 31] (fun x i wr => ∃ k : Nat, i = .int .i64 (k : Int) ∧ x = .int .u64 (wordD ((l.take 8).take k)) ∧ k ≤ 8 ∧ wr = w2) (fun _ i _ => 8 - (RowKit.intOf i).toNat)
        case atStart => exact ⟨0, rfl, rfl, by omega, rfl⟩
        case round =>
          obtain ⟨k, rfl, rfl, hk, rfl⟩ := hrel
          by_cases hlt : k < 8
          · obtain ⟨x, hx⟩ : ∃ x, (l.take 8)[k]? = some x := ⟨_, List.getElem?_eq_getElem (by omega)⟩
            have hcx := hc k x hx
            have hkl : k < l.length := by omega
            have hxk : l[k] = x := by
              rw [List.getElem?_take_of_lt hlt, List.getElem?_eq_getElem hkl] at hx
              exact Option.some.inj hx
            have hlt' : (k : Int) < 8 := by omega
            have hw : wrap64 ((k : Int) + 1) = ((k + 1 : Nat) : Int) := by simp only [wrap64]; omega
            have hst : wordD ((l.take 8).take (k + 1)) = wstep (wordD ((l.take 8).take k)) x := by
              rw [List.take_add_one, hx]
              simp [wordD, List.foldl_append]
            unfold wstep at hst
            generalize wordD ((l.take 8).take k) = hh2 at hst ⊢
            go_wp2
            refine ⟨⟨k + 1, by first | rfl | simp, ?_, by omega, trivial⟩, by simp [RowKit.intOf]; omega⟩
            rw [hst]
          · obtain rfl : k = 8 := by omega
            go_wp2
            go_ret
            refine ⟨?_, hd2, ho⟩
            rw [List.take_take]
            rfl
      · have := congrArg List.length hn
        rw [ht8] at this
        cases this
  · rw [if_neg he]
    go_enter Tryz.func48, Tryz.ntmps48
    go_wp2_with (fail)
    refine (ready_no r _ e w hrd he).mono fun x w' hq => ?_
    obtain ⟨rfl, rfl⟩ := hq
    go_wp2_with (fail)
    go_ret
    exact ⟨rfl, hh, .refl⟩
end Go.Proofs

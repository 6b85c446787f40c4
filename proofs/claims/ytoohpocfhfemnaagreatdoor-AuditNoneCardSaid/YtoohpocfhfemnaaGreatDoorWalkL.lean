/- A part of the proof of AuditNone: the runs of the document's example and of the law's body, and facts of the row. Conditions: none. -/
import Derived.Test.YtoohpocfhfemnaaGreatDoorWalkK
import Derived.Deep.RegionHeld3
namespace Go.Proofs
open Go.Shelf Go.RowKit Go.Lib
variable {I S : Nat → Prop}

theorem below_drew {B : Nat} {w w' : World} (h : Below B w.drew w') : Below B w w' := ⟨h.os, h.tape, h.output, h.size, h.block⟩

set_option maxRecDepth 1000000 in
set_option maxHeartbeats 8000000 in
theorem trunc1_any (kb kn kd ks d m b o c n r : Nat) (l : List UInt8) (v0 : Value) (cnt : Int) (w : World) (hb : w.cell? ⟨kb, 0, none⟩ = some (.slice (some ⟨b, o, none⟩) l.length c)) (hn : w.cell? ⟨kn, 0, none⟩ = some (.int .i64 n)) (hd : w.cell? ⟨kd, 0, none⟩ = some (.pointer (some ⟨d, 0, none⟩))) (hs : w.cell? ⟨ks, 0, none⟩ = some (.string objS))
    (h : DiskAt w d m (some v0) cnt) (hv : BytesOff w r I (.slice (some ⟨b, o, none⟩) l.length c) l) (hnl : n < l.length) (hl : l.length ≤ 1000000) :
    Calls Tryz.prog 88 #[.pointer (some ⟨kb, 0, none⟩), .pointer (some ⟨kn, 0, none⟩), .pointer (some ⟨kd, 0, none⟩), .pointer (some ⟨ks, 0, none⟩)] w fun e w' => e = .returned (.tuple #[]) ∧ (∃ v', DiskAt w' d m (some v') cnt ∧ BytesOff w' m (fun k => w.heap.size ≤ k) v' (l.take n)) ∧ Turn (fun k => k = m) w w' := by
  have mixed : Tryz.prog.follows .mixedOrders = true := by kernel_rfl
  have hlc : l.length ≤ c ∧ c ≤ maxLen := by
    rcases hv with ⟨b', o', c', h1, h2, h3, _⟩ | ⟨h1, h2⟩
    · cases h1; exact ⟨h2, h3⟩
    · cases h1
  have hcl : Hid (BytesOff w.drew r I (.slice (some ⟨b, o, none⟩) n c) (l.take n)) := by
    rcases hv with ⟨b', o', c', h1, h2, h3, h4, h5, h6⟩ | ⟨h1, h2⟩
    · cases h1
      refine .inl ⟨b, o, c, by rw [List.length_take, Nat.min_eq_left (by omega)], by rw [List.length_take]; omega, h3, h4, h5, fun i x hx => ?_⟩
      rw [List.getElem?_take] at hx
      split at hx
      · exact h6 i x hx
      · cases hx
    · cases h1
  have hfs := Hid.mk' h
  have c0 := h.c0
  have hlt : Hid (kb < w.heap.size ∧ kn < w.heap.size ∧ kd < w.heap.size ∧ ks < w.heap.size ∧ d < w.heap.size ∧ m < w.heap.size) := ⟨World.block_lt_of_cell? w ⟨kb, 0, none⟩ hb, World.block_lt_of_cell? w ⟨kn, 0, none⟩ hn, World.block_lt_of_cell? w ⟨kd, 0, none⟩ hd, World.block_lt_of_cell? w ⟨ks, 0, none⟩ hs, h.lt, h.fs.lt⟩
  have hn1 : (n : Int) ≤ (c : Int) := by omega
  have hn2 : n ≤ c := by omega
  have hn3 : ¬ (c : Int) < (n : Int) := by omega
  have hn4 : ¬ (n : Int) < 0 := by omega
  clear h hv hlc
  go_enter Tryz.func88, Tryz.ntmps88
  go_wp2_with (fail)
  go_region_held3 (fun w' => w'.cell? ⟨kb, 0, none⟩ = some (.slice (some ⟨b, o, none⟩) l.length c) ∧ w'.cell? ⟨kn, 0, none⟩ = some (.int .i64 n) ∧ w'.cell? ⟨kd, 0, none⟩ = some (.pointer (some ⟨d, 0, none⟩)) ∧ w'.cell? ⟨ks, 0, none⟩ = some (.string objS) ∧ w'.cell? ⟨d, 0, none⟩ = some (.map (some m)))
    (first | exact ⟨hb, hn, hd, hs, c0⟩ | exact S9.out | exact S10.out)
    (first
    | (go_at_call 26; refine (clone_any (I := I) r m (l.take n) _ w.drew hcl.out hlt.out.2.2.2.2.2 (by rw [List.length_take]; omega)).mono ?_
       rintro e w9 ⟨v9, rfl, hb9, hbl0⟩
       obtain ⟨a9, q9, hv9⟩ := hb9.len
       obtain ⟨N9, hN9⟩ : ∃ N9, N9 = (l.take n).length := ⟨_, rfl⟩
       rw [← hN9] at hv9
       subst hv9
       clear hN9
       have hbl9 : Below w.heap.size w w9 := below_drew hbl0
       have D9 : DiskAt w9 d m (some v0) cnt := hfs.out.turn (S := fun k => w.heap.size ≤ k) (Turn.below (S := fun k => w.heap.size ≤ k) hbl9 (fun _ h _ => h)) (by have := hlt.out; omega) (by have := hlt.out; omega)
       obtain ⟨w10, hu, hf10, ht10⟩ := upd_hit D9.fs (.slice a9 N9 q9)
       have S9 := Hid.mk' (And.intro ((hbl9.cell (p := ⟨kb, 0, none⟩) hlt.out.1).trans hb) (And.intro ((hbl9.cell (p := ⟨kn, 0, none⟩) hlt.out.2.1).trans hn) (And.intro ((hbl9.cell (p := ⟨kd, 0, none⟩) hlt.out.2.2.1).trans hd) (And.intro ((hbl9.cell (p := ⟨ks, 0, none⟩) hlt.out.2.2.2.1).trans hs) D9.c0))))
       have S10 : Hid (w10.cell? ⟨kb, 0, none⟩ = some (.slice (some ⟨b, o, none⟩) l.length c) ∧ w10.cell? ⟨kn, 0, none⟩ = some (.int .i64 n) ∧ w10.cell? ⟨kd, 0, none⟩ = some (.pointer (some ⟨d, 0, none⟩)) ∧ w10.cell? ⟨ks, 0, none⟩ = some (.string objS) ∧ w10.cell? ⟨d, 0, none⟩ = some (.map (some m))) := by
         have hm : ∀ k v, w9.cell? ⟨k, 0, none⟩ = some v → ¬ k = m := fun k v hk e => by
           have h1 : w9.heap[m]? = _ := D9.fs
           simp [World.cell?, e, h1, filesO] at hk
         obtain ⟨s1, s2, s3, s4, s5⟩ := S9.out
         exact ⟨ht10.cell s1 (hm _ _ s1), ht10.cell s2 (hm _ _ s2), ht10.cell s3 (hm _ _ s3), ht10.cell s4 (hm _ _ s4), ht10.cell s5 (hm _ _ s5)⟩
       have Z1 := Hid.mk' hf10
       have Z2 := Hid.mk' ht10
       have Z3 := Hid.mk' hb9
       have Z4 := Hid.mk' hbl9
       have Z5 := Hid.mk' D9
       clear hf10 ht10 hb9 hbl9 D9 hbl0))
  go_end0
  refine ⟨rfl, ⟨.slice a9 N9 q9, ?_, ?_⟩, ?_⟩
  · exact ⟨Z2.out.cell Z5.out.c0 Z5.out.ne, Z2.out.cell Z5.out.c1 Z5.out.ne, Z2.out.cell Z5.out.c3 Z5.out.ne, (Z2.out.frozen Z5.out.lt Z5.out.ne).trans Z5.out.z1, Z1.out⟩
  · exact Z2.out.bytes (Z3.out.imp fun k hk => hk.1) (fun k hk _ e => by have := hlt.out.2.2.2.2.2; have : w.heap.size ≤ k := hk; omega)
  · exact (Turn.below (S := fun k => k = m) Z4.out (fun k h1 h2 => by omega)).trans Z2.out
end Go.Proofs

namespace Go.Proofs
open Go.Shelf Go.RowKit Go.Lib
variable {I S : Nat → Prop}

set_option maxRecDepth 1000000 in
set_option maxHeartbeats 8000000 in
theorem trunc_any (d m n : Nat) (l : List UInt8) (v0 : Value) (cnt : Int) (w : World) (h : DiskAt w d m (some v0) cnt) (hcnt : 0 ≤ cnt ∧ cnt ≤ 1000000) (hv : BytesOff w d I v0 l) (hnl : n < l.length) (hl : l.length ≤ 1000000) :
    Calls Tryz.prog 52 #[.pointer (some ⟨d, 0, none⟩), .string objS, .int .i64 n] w fun e w' => e = .returned (.int .i64 0) ∧ (∃ v', DiskAt w' d m (some v') (cnt + 1) ∧ BytesOff w' m (fun k => w.heap.size ≤ k) v' (l.take n)) ∧ Turn (fun k => k = m ∨ k = d) w w' := by
  have mixed : Tryz.prog.follows .mixedOrders = true := by kernel_rfl
  obtain ⟨b, o, c, rfl⟩ : ∃ b o c, v0 = .slice (some ⟨b, o, none⟩) l.length c := by
    rcases hv with ⟨b, o, c, rfl, _⟩ | ⟨rfl, rfl⟩
    · exact ⟨_, _, _, rfl⟩
    · simp at hnl
  obtain ⟨K, hK⟩ : ∃ K, K = w.heap.size := ⟨_, rfl⟩
  obtain ⟨w3, hw3⟩ : ∃ w3, w3 = (((w.alloc (.cells #[.pointer (some ⟨d, 0, none⟩)] 32)).alloc (.cells #[.string objS] 9)).alloc (.cells #[.int .i64 n] 3)) := ⟨_, rfl⟩
  have hT : Turn (fun _ => False) w w3 := by rw [hw3]; exact (((Turn.refl _ _).alloc _).alloc _).alloc _
  have hs3 : w3.heap.size = K + 3 := by rw [hw3, hK]; simp
  have k0 : w3.cell? ⟨K, 0, none⟩ = some (.pointer (some ⟨d, 0, none⟩)) := by rw [hw3, hK]; exact Lib.cell?_alloc_some _ (Lib.cell?_alloc_some _ (row_cell _ _ _ 0 _ rfl))
  have k1 : w3.cell? ⟨K + 1, 0, none⟩ = some (.string objS) := by
    rw [hw3, hK]
    have := row_cell (w.alloc (.cells #[.pointer (some ⟨d, 0, none⟩)] 32)) #[.string objS] 9 0 _ rfl
    rw [World.size_alloc] at this
    exact Lib.cell?_alloc_some _ this
  have k2 : w3.cell? ⟨K + 1 + 1, 0, none⟩ = some (.int .i64 n) := by
    rw [hw3, hK]
    have := row_cell ((w.alloc (.cells #[.pointer (some ⟨d, 0, none⟩)] 32)).alloc (.cells #[.string objS] 9)) #[.int .i64 n] 3 0 _ rfl
    rw [World.size_alloc, World.size_alloc] at this
    exact this
  have D3 := h.turn hT id id
  have B3 := hT.bytes hv (fun _ _ _ => id)
  have hdk : d < K := by rw [hK]; exact h.lt
  have hmk : m < K := by rw [hK]; exact h.fs.lt
  have c0 := D3.c0
  have q := look_hit D3.fs
  have HD := Hid.mk' D3
  have HB := Hid.mk' B3
  have hn1 : ¬ (l.length : Int) < (n : Int) := by omega
  have hn2 : ((n : Int) == (l.length : Int)) = false := by simp; omega
  have hn3 : ¬ (n : Int) < 0 := by omega
  clear h hv D3 B3
  go_enter Tryz.func52, Tryz.ntmps52
  go_wp2_with (fail)
  rw [← hw3, ← hK]
  have HS : ∀ W, Turn (fun k => K + 3 ≤ k) w3 W → (W.cell? ⟨K, 0, none⟩ = some (.pointer (some ⟨d, 0, none⟩)) ∧ W.cell? ⟨K + 1, 0, none⟩ = some (.string objS) ∧ W.cell? ⟨K + 1 + 1, 0, none⟩ = some (.int .i64 n) ∧ W.cell? ⟨d, 0, none⟩ = some (.map (some m)) ∧ (Instr.lookup 57 (.map (some m)) (.string objS) true).run Tryz.prog W = .ok (.tuple #[.slice (some ⟨b, o, none⟩) l.length c, .bool true]) W) := fun W T =>
    ⟨T.cell k0 (show ¬ K + 3 ≤ K by omega), T.cell k1 (show ¬ K + 3 ≤ K + 1 by omega), T.cell k2 (show ¬ K + 3 ≤ K + 1 + 1 by omega), T.cell c0 (show ¬ K + 3 ≤ d by omega), look_hit (HD.out.fs.turn T (show ¬ K + 3 ≤ m by omega))⟩
  have TD : Turn (fun k => K + 3 ≤ k) w3 w3.drew := (Turn.refl _ _).drew
  have HS2 := Hid.mk' HS
  clear HS hw3
  have hs3' : w3.heap.size = K + 1 + 1 + 1 := hs3
  have HK := Hid.mk' hK
  have HS3 := Hid.mk' hs3'
  clear hs3 hK hs3' q
  go_region_held3 (fun W => W.cell? ⟨K, 0, none⟩ = some (.pointer (some ⟨d, 0, none⟩)) ∧ W.cell? ⟨K + 1, 0, none⟩ = some (.string objS) ∧ W.cell? ⟨K + 1 + 1, 0, none⟩ = some (.int .i64 n) ∧ W.cell? ⟨d, 0, none⟩ = some (.map (some m)) ∧ (Instr.lookup 57 (.map (some m)) (.string objS) true).run Tryz.prog W = .ok (.tuple #[.slice (some ⟨b, o, none⟩) l.length c, .bool true]) W)
    (first | exact HS2.out _ TD | exact HS2.out _ (TD.alloc _) | exact HS2.out _ ((TD.alloc _).setCell (by have := HS3.out; show K + 3 ≤ _; simp; omega) _))
    (fail)
  all_goals
    have T4 : Turn (fun k => K + 3 ≤ k) w3 (w3.alloc (Obj.cells #[Value.slice (some { block := b, off := o }) l.length c] 22)).drew := ((Turn.refl _ _).alloc _).drew
    have x0 : (w3.alloc (Obj.cells #[Value.slice (some { block := b, off := o }) l.length c] 22)).drew.cell? ⟨w3.heap.size, 0, none⟩ = some (.slice (some ⟨b, o, none⟩) l.length c) := row_cell _ _ _ 0 _ rfl
    have F4 : Turn (fun _ => False) w3 (w3.alloc (Obj.cells #[Value.slice (some { block := b, off := o }) l.length c] 22)).drew := ((Turn.refl _ _).alloc _).drew
    generalize (w3.alloc (Obj.cells #[Value.slice (some { block := b, off := o }) l.length c] 22)).drew = w4 at T4 x0 F4 ⊢
    obtain ⟨x1, x2, x3, x4, _⟩ := HS2.out _ T4
    have D4 := HD.out.turn F4 id id
    have B4 := F4.bytes HB.out (fun _ _ _ => id)
    have hcall := raw_88 d m _ _ _ _ cnt _ w4 D4 hcnt _ (trunc1_any (r := d) (I := I) w3.heap.size (K + 1 + 1) K (K + 1) d m b o c n l _ _ (w4.setCell ⟨d, 1, none⟩ (.int .i64 (cnt + 1)))
      ((World.cell?_setCell_other _ _ _ _ (by simp)).trans x0) ((World.cell?_setCell_other _ _ _ _ (by simp)).trans x3) ((World.cell?_setCell_other _ _ _ _ (by simp)).trans x1) ((World.cell?_setCell_other _ _ _ _ (by simp)).trans x2)
      (D4.count (cnt + 1)) (B4.only (.set .refl 1 _)) hnl hl)
    clear T4 D4
    go_wp2_with (fail)
    refine hcall.mono ?_
    rintro e w5 ⟨rfl, ⟨v', D5, B5⟩, T5⟩
    have hsz4 := F4.size
    have hszw := hT.size
    have HR := Hid.mk' (And.intro D5 (And.intro B5 T5))
    clear D5 B5 T5 hcall
    go_wp2_with (fail)
    go_ret
    obtain ⟨D5, B5, T5⟩ := HR.out
    refine ⟨rfl, ⟨v', D5, B5.imp fun k hk => ?_⟩, ?_⟩
    · have : w4.heap.size ≤ k := by simpa using hk
      omega
    · exact ((hT.mono (fun k _ h => h.elim)).trans (F4.mono (fun k _ h => h.elim))).trans (((Turn.refl (fun k => k = m ∨ k = d) w4).setCell (p := ⟨d, 1, none⟩) (.inr rfl) _).trans (T5.mono (fun k _ h => .inl h)))
end Go.Proofs

namespace Go.Proofs
open Go.Shelf Go.RowKit Go.Lib
variable {I S : Nat → Prop}

/-- What stands in front: the record, its sum, what is left, the error. -/
def recF (l : List UInt8) : List UInt8 × Int × List UInt8 × Int := ((textF l 262144 0).1, (wordF (textF l 262144 0).2.1 (textF l 262144 0).2.2).1, (wordF (textF l 262144 0).2.1 (textF l 262144 0).2.2).2.1, (wordF (textF l 262144 0).2.1 (textF l 262144 0).2.2).2.2)
/-- The records of a file: none: it is broken; else they, and how many bytes they take. -/
def recsL : Nat → List UInt8 → List (List UInt8) → Nat → Option (List (List UInt8) × Nat)
  | 0, _, rs, sz => some (rs, sz)
  | f + 1, l, rs, sz =>
    if 0 < l.length then
      if (recF l).2.2.2 = 110 then some (rs, sz)
      else if (recF l).2.2.2 ≠ 0 ∨ (recF l).2.1 ≠ hashD (recF l).1 then none
      else recsL f (recF l).2.2.1 (rs ++ [(recF l).1]) (sz + (l.length - (recF l).2.2.1.length))
    else some (rs, sz)
/-- Where the records stand. -/
def partsOf : List (List UInt8) → Nat → List (Nat × Nat)
  | [], _ => []
  | x :: rs, k => (k, k + x.length) :: partsOf rs (k + x.length)
theorem partsOf_snoc : ∀ (rs : List (List UInt8)) (x : List UInt8) (k : Nat), partsOf (rs ++ [x]) k = partsOf rs k ++ [(k + rs.flatten.length, k + rs.flatten.length + x.length)]
  | [], x, k => by simp [partsOf]
  | y :: rs, x, k => by
    have ih := partsOf_snoc rs x (k + y.length)
    simp only [List.cons_append, partsOf, ih, List.flatten_cons, List.length_append]
    rw [Nat.add_assoc]
theorem partsOf_len : ∀ (rs : List (List UInt8)) (k : Nat), (partsOf rs k).length = rs.length
  | [], k => rfl
  | x :: rs, k => by simp [partsOf, partsOf_len rs]

theorem textF_ok (l : List UInt8) (m : Nat) (e : Int) (h : (textF l m e).2.2 = 0) : e = 0 ∧ (textF l m e).1.length + (textF l m e).2.1.length + 1 ≤ l.length := by
  have hp := numF_pos l 0 0
  have hk := numF_ok l 0 0
  unfold textF at h ⊢
  by_cases he : e = 0
  · simp only [if_pos he] at h ⊢
    by_cases h3 : (numF l 0 0).2.2 = 0
    · simp only [if_pos h3] at h ⊢
      have hp := hp h3
      have hk := hk.2 h3
      by_cases h4 : (m : Int) < (numF l 0 0).1
      · simp [if_pos h4] at h
      · simp only [if_neg h4] at h ⊢
        by_cases h5 : ((l.length - (numF l 0 0).2.1.toNat : Nat) : Int) < (numF l 0 0).1
        · simp [if_pos h5] at h
        · simp only [if_neg h5] at h ⊢
          simp only [List.length_drop, List.length_take]
          exact ⟨he, by omega⟩
    · simp only [if_neg h3] at h
      exact absurd h h3
  · simp only [if_neg he] at h
    exact absurd h he
theorem wordF_ok (l : List UInt8) (e : Int) (h : (wordF l e).2.2 = 0) : e = 0 ∧ (wordF l e).2.1.length + 8 = l.length := by
  unfold wordF at h ⊢
  by_cases he : e = 0
  · simp only [if_pos he] at h ⊢
    by_cases h8 : l.length < 8
    · simp [if_pos h8] at h
    · simp only [if_neg h8] at h ⊢
      simp only [List.length_drop]
      exact ⟨he, by omega⟩
  · simp only [if_neg he] at h
    exact absurd h he
theorem recF_left (l : List UInt8) (h : (recF l).2.2.2 = 0) : (recF l).1.length + (recF l).2.2.1.length + 9 ≤ l.length := by
  unfold recF at h ⊢
  simp only at h ⊢
  obtain ⟨h1, h2⟩ := wordF_ok _ _ h
  have h3 := textF_ok l 262144 0 h1
  omega
end Go.Proofs

namespace Go.Proofs
open Go.Shelf Go.RowKit Go.Lib
variable {I S : Nat → Prop}
set_option maxRecDepth 1000000
set_option maxHeartbeats 4000000 in
theorem new_any (w : World) : Calls Tryz.prog 7 #[] w fun e w' => ∃ d m, e = .returned (.pointer (some ⟨d, 0, none⟩)) ∧ DiskAt w' d m none 0 ∧ w.heap.size ≤ m ∧ w.heap.size ≤ d ∧ Turn (fun _ => False) w w' := by
  have hmm := @run_makeMap Tryz.prog
  go_enter Tryz.func7, Tryz.ntmps7
  go_wp2_with (fail)
  go_ret
  clear hmm
  have hs : (w.alloc (Obj.map #[] 0)).heap.size = w.heap.size + 1 := World.size_alloc _ _
  have hc : ∀ (k : Nat) (v : Value), #[Value.map (some w.heap.size), Value.int IntKind.i64 0, Value.int IntKind.i64 0, Value.bool false][k]? = some v → ((w.alloc (Obj.map #[] 0)).alloc (Obj.cells #[Value.map (some w.heap.size), Value.int IntKind.i64 0, Value.int IntKind.i64 0, Value.bool false] 59)).cell? ⟨w.heap.size + 1, k, none⟩ = some v := fun k v hk => by rw [← hs]; exact row_cell _ _ _ k _ hk
  refine ⟨w.heap.size + 1, w.heap.size, rfl, ⟨hc 0 _ rfl, hc 1 _ rfl, hc 3 _ rfl, ?_, ?_⟩, by omega, by omega, ?_⟩
  · exact World.frozen?_alloc_at _ _ _ _ hs.symm
  · show _ = _
    exact (Below.heap_alloc _ _ _ (by rw [hs]; omega)).trans (World.alloc_last w _)
  · exact ((Turn.refl _ _).alloc _).alloc _
end Go.Proofs

namespace Go.Proofs
open Go.Shelf Go.RowKit Go.Lib
variable {I S : Nat → Prop}

/-- What the map says of the file. -/
def fileV : Option Value → Value
  | none => .slice none 0 0
  | some v => v
theorem look_file {w : World} {m : Nat} {x : Option Value} (h : Files w m x) : (Instr.lookup 57 (.map (some m)) (.string objS) false).run Tryz.prog w = .ok (fileV x) w := by
  cases x with
  | none => exact look_empty h objS false
  | some v => exact look_hit' h
theorem upd_any {w : World} {m : Nat} {x : Option Value} (h : Files w m x) (v : Value) : ∃ w', (Instr.mapUpdate 57 (.map (some m)) (.string objS) v).run Tryz.prog w = .ok () w' ∧ Files w' m (some v) ∧ Turn (fun k => k = m) w w' := by
  cases x with
  | none => exact upd_empty h v
  | some v0 => exact upd_hit h v

set_option maxRecDepth 1000000 in
set_option maxHeartbeats 8000000 in
theorem app20 (kd ks kp d m B ab ao c : Nat) (x : Option Value) (all l : List UInt8) (cnt : Int) (w : World) (hd : w.cell? ⟨kd, 0, none⟩ = some (.pointer (some ⟨d, 0, none⟩))) (hs : w.cell? ⟨ks, 0, none⟩ = some (.string objS)) (hp : w.cell? ⟨kp, 0, none⟩ = some (.slice (some ⟨ab, ao, none⟩) l.length c))
    (h : DiskAt w d m x cnt) (own : w.ownsRow B 5 1 (fileV x) all.length (u8s all)) (hB : d < B ∧ m < B ∧ B ≤ w.heap.size) (hl : ∀ i y, l[i]? = some y → w.cell? ⟨ab, ao + i, none⟩ = some (.int .u8 (y.toNat : Int)))
    (hsep : ∀ k, (fileV x).ownBlock = some k → ¬ k = kd ∧ ¬ k = ks ∧ ¬ k = kp) (h0 : 0 < l.length) (hn : all.length + l.length ≤ 1000000) :
    Calls Tryz.prog 20 #[.pointer (some ⟨kd, 0, none⟩), .pointer (some ⟨ks, 0, none⟩), .pointer (some ⟨kp, 0, none⟩)] w fun e w' => e = .returned (.tuple #[]) ∧ (∃ v', DiskAt w' d m (some v') cnt ∧ w'.ownsRow B 5 1 v' (all ++ l).length (u8s (all ++ l))) ∧ Turn (fun k => k = m ∨ B ≤ k ∧ k < w.heap.size ∧ (fileV x).ownBlock = some k) w w' := by
  have mixed : Tryz.prog.follows .mixedOrders = true := by kernel_rfl
  have t22 : Tryz.prog.underlying 22 = some (.slice 5) := by kernel_rfl
  have i5 : (Tryz.prog.info? 5).map (fun i => (i.zero, i.size, i.bytes)) = some (some (Value.int IntKind.u8 0), 1, 1) := by kernel_rfl
  obtain ⟨i0, hi, hz0, hz1, hz2⟩ := info_parts i5
  obtain ⟨a1, q1, hfv⟩ := slice_of_owns own
  have q0 : (Instr.lookup 57 (.map (some m)) (.string objS) false).run Tryz.prog w.drew = .ok (fileV x) w.drew := look_file (w := w.drew) h.fs
  rw [hfv] at own q0 hsep
  have hfs := Hid.mk' h
  have c0 := h.c0
  have hlt : Hid (kd < w.heap.size ∧ ks < w.heap.size ∧ kp < w.heap.size ∧ d < w.heap.size ∧ m < w.heap.size) := ⟨World.block_lt_of_cell? w ⟨kd, 0, none⟩ hd, World.block_lt_of_cell? w ⟨ks, 0, none⟩ hs, World.block_lt_of_cell? w ⟨kp, 0, none⟩ hp, h.lt, h.fs.lt⟩
  have hnews : Hid (∀ j u, (u8s l)[j]? = some u → w.drew.cell? ((⟨ab, ao, none⟩ : Addr).add j) = some u) := fun k u hu => by
    rw [u8s, List.getElem?_map] at hu
    rw [Addr.add_lit]
    cases hx : l[k]? with
    | none => rw [hx] at hu; cases hu
    | some x => rw [hx] at hu; rw [World.cell?_drew, hl k x hx]; exact hu
  have h1c : Hid (∀ u ∈ u8s l, u.oneCell' = true) := fun u hu => by obtain ⟨x, _, rfl⟩ := List.mem_map.1 hu; rfl
  have hB' := Hid.mk' hB
  have hown : Hid (w.drew.ownsRow B 5 1 (.slice a1 all.length q1) all.length (u8s all)) := own
  have hsp := Hid.mk' hsep
  have HFV := Hid.mk' hfv
  clear h hl own hsep hfv
  go_enter Tryz.func20, Tryz.ntmps20
  go_wp2_with (fail)
  go_region_held3 (fun w' => w'.cell? ⟨kd, 0, none⟩ = some (.pointer (some ⟨d, 0, none⟩)) ∧ w'.cell? ⟨ks, 0, none⟩ = some (.string objS) ∧ w'.cell? ⟨kp, 0, none⟩ = some (.slice (some ⟨ab, ao, none⟩) l.length c) ∧ w'.cell? ⟨d, 0, none⟩ = some (.map (some m)))
    (first | exact ⟨hd, hs, hp, c0⟩ | exact S9.out | exact S10.out)
    (first
    | (refine step_append_lies _ rfl (.tmp 13) (.tmp 14) 22 rfl B 5 i0 (.int .u8 0) 1 1 t22 hi hz0 hz1 hz2 rfl (by decide) (.slice a1 all.length q1) all.length (u8s all) (by simp [Act.eval]) hown.out ⟨ab, ao, none⟩ l.length c (u8s l) (by simp [Act.eval]) (by rw [u8s_len]; omega) hnews.out h1c.out (by omega) (by unfold maxLen; omega) (by omega) hB'.out.2.2 _ rfl ?_
       intro g cap w9 hown9 hgrow9 hat9 hlt9
       have T9 : Turn (fun k => B ≤ k ∧ k < w.heap.size ∧ (Value.slice a1 all.length q1).ownBlock = some k) w w9 := ((Turn.refl (fun k => B ≤ k ∧ k < w.heap.size ∧ (Value.slice a1 all.length q1).ownBlock = some k) w).drew).grown hgrow9 (fun k hk => ⟨(hown.out.lt k hk).1, (hown.out.lt k hk).2, hk⟩)
       have nn : ∀ k, (k < B ∨ k = kd ∨ k = ks ∨ k = kp) → ¬ (B ≤ k ∧ k < w.heap.size ∧ (Value.slice a1 all.length q1).ownBlock = some k) := fun k hk ⟨e1, _, e2⟩ => by
         have := hsp.out k e2
         omega
       have D9 : DiskAt w9 d m x cnt := hfs.out.turn T9 (nn _ (.inl hB'.out.1)) (nn _ (.inl hB'.out.2.1))
       obtain ⟨w10, hu, hf10, ht10⟩ := upd_any D9.fs (.slice (some ⟨g, 0, none⟩) (all.length + l.length) cap)
       have S9 := Hid.mk' (And.intro (T9.cell hd (nn _ (.inr (.inl rfl)))) (And.intro (T9.cell hs (nn _ (.inr (.inr (.inl rfl))))) (And.intro (T9.cell hp (nn _ (.inr (.inr (.inr rfl))))) D9.c0)))
       have S10 : Hid (w10.cell? ⟨kd, 0, none⟩ = some (.pointer (some ⟨d, 0, none⟩)) ∧ w10.cell? ⟨ks, 0, none⟩ = some (.string objS) ∧ w10.cell? ⟨kp, 0, none⟩ = some (.slice (some ⟨ab, ao, none⟩) l.length c) ∧ w10.cell? ⟨d, 0, none⟩ = some (.map (some m))) := by
         have hm : ∀ k v, w9.cell? ⟨k, 0, none⟩ = some v → ¬ k = m := fun k v hk e => by
           have h1 : w9.heap[m]? = _ := D9.fs
           cases x <;> simp [World.cell?, e, h1, filesO] at hk
         obtain ⟨s1, s2, s3, s4⟩ := S9.out
         exact ⟨ht10.cell s1 (hm _ _ s1), ht10.cell s2 (hm _ _ s2), ht10.cell s3 (hm _ _ s3), ht10.cell s4 (hm _ _ s4)⟩
       have Z1 := Hid.mk' hf10
       have Z2 := Hid.mk' ht10
       have Z3 := Hid.mk' hown9
       have Z4 := Hid.mk' T9
       have Z5 := Hid.mk' D9
       clear hf10 ht10 hown9 T9 D9 hgrow9 hat9 nn))
  go_end0
  have hm9 : m < w9.heap.size := Z5.out.fs.lt
  refine ⟨rfl, ⟨_, ⟨Z2.out.cell Z5.out.c0 Z5.out.ne, Z2.out.cell Z5.out.c1 Z5.out.ne, Z2.out.cell Z5.out.c3 Z5.out.ne, (Z2.out.frozen Z5.out.lt Z5.out.ne).trans Z5.out.z1, Z1.out⟩, ?_⟩, ?_⟩
  · rw [List.length_append, u8s_append]
    exact Z2.out.owns Z3.out (fun k hk e => by have := (Z3.out.lt k hk).1; have := hB'.out.2.1; omega)
  · rw [HFV.out]
    exact (Z4.out.mono (fun k _ h => .inr h)).trans (Z2.out.mono (fun k _ h => .inl h))
end Go.Proofs

namespace Go.Proofs
open Go.Shelf Go.RowKit Go.Lib
variable {I S : Nat → Prop}

set_option maxRecDepth 1000000 in
set_option maxHeartbeats 8000000 in
theorem app19 (kd ks d m : Nat) (cnt : Int) (w : World) (hd : w.cell? ⟨kd, 0, none⟩ = some (.pointer (some ⟨d, 0, none⟩))) (hs : w.cell? ⟨ks, 0, none⟩ = some (.string objS)) (h : DiskAt w d m none cnt) :
    Calls Tryz.prog 19 #[.pointer (some ⟨kd, 0, none⟩), .pointer (some ⟨ks, 0, none⟩)] w fun e w' => e = .returned (.tuple #[]) ∧ DiskAt w' d m (some (.slice none 0 0)) cnt ∧ Turn (fun k => k = m) w w' := by
  have c0 := h.c0
  obtain ⟨w10, hu, hf10, ht10⟩ := upd_empty (w := w.drew) (m := m) h.fs (.slice none 0 0)
  have S10 : Hid (w10.cell? ⟨kd, 0, none⟩ = some (.pointer (some ⟨d, 0, none⟩)) ∧ w10.cell? ⟨ks, 0, none⟩ = some (.string objS) ∧ w10.cell? ⟨d, 0, none⟩ = some (.map (some m))) := by
    have hm : ∀ k v, w.cell? ⟨k, 0, none⟩ = some v → ¬ k = m := fun k v hk e => by
      have h1 : w.heap[m]? = _ := h.fs
      simp [World.cell?, e, h1, filesO] at hk
    exact ⟨ht10.cell (w := w.drew) hd (hm _ _ hd), ht10.cell (w := w.drew) hs (hm _ _ hs), ht10.cell (w := w.drew) c0 (hm _ _ c0)⟩
  have Z1 := Hid.mk' hf10
  have Z2 := Hid.mk' ht10
  have Z5 := Hid.mk' h
  clear hf10 ht10 h
  go_enter Tryz.func19, Tryz.ntmps19
  go_wp2_with (fail)
  go_region_held3 (fun w' => w'.cell? ⟨kd, 0, none⟩ = some (.pointer (some ⟨d, 0, none⟩)) ∧ w'.cell? ⟨ks, 0, none⟩ = some (.string objS) ∧ w'.cell? ⟨d, 0, none⟩ = some (.map (some m)))
    (first | exact ⟨hd, hs, c0⟩ | exact S10.out) (fail)
  go_end0
  have hT : Turn (fun k => k = m) w w10 := ((Turn.refl (fun k => k = m) w).drew).trans (Z2.out)
  have h := Z5.out
  exact ⟨rfl, ⟨hT.cell h.c0 h.ne, hT.cell h.c1 h.ne, hT.cell h.c3 h.ne, (hT.frozen h.lt h.ne).trans h.z1, Z1.out⟩, hT⟩

end Go.Proofs

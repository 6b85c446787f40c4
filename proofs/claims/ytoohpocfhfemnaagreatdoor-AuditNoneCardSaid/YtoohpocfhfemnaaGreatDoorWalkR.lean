/- A part of the proof of AuditNone: the runs of the document's example and of the law's body, and facts of the row. Conditions: none. -/
import Derived.Test.YtoohpocfhfemnaaGreatDoorWalkP
import Derived.LoopN
namespace Go.Proofs
open Go.Shelf Go.RowKit Go.Lib
variable {I S : Nat → Prop}
attribute [local go_sem] Oper.semAt_some
set_option maxRecDepth 1000000

set_option maxHeartbeats 8000000 in
theorem copy_any (d m r0 : Nat) (cnt : Int) (v0 : Value) (l : List UInt8) (w : World) (h : DiskAt w d m (some v0) cnt) (hv : BytesOff w r0 I v0 l) (hl : l.length ≤ 1000000) :
    Calls Tryz.prog 10 #[.pointer (some ⟨d, 0, none⟩)] w fun e w' => ∃ d2 m2 v2, e = .returned (.pointer (some ⟨d2, 0, none⟩)) ∧ DiskAt w' d2 m2 (some v2) 0 ∧ BytesOff w' d2 (fun k => w.heap.size ≤ k) v2 l ∧ w.heap.size ≤ d2 ∧ w.heap.size ≤ m2 ∧ v2.oneCell' = true ∧ Turn (fun _ => False) w w' := by
  have mixed : Tryz.prog.follows .mixedOrders = true := by kernel_rfl
  have c0 := h.c0
  have HL : Hid (d < w.heap.size ∧ m < w.heap.size) := ⟨h.lt, h.fs.lt⟩
  have H := Hid.mk' h
  have HV := Hid.mk' hv
  clear h hv
  go_enter Tryz.func10, Tryz.ntmps10
  go_wp2_with (fail)
  refine (new_any w).mono ?_
  rintro e w1 ⟨d2, m2, rfl, D2, hm2, hd2, T1⟩
  have D1 := H.out.turn T1 id id
  have B1 := T1.bytes HV.out (fun _ _ _ => id)
  have e0 := D1.c0
  have hrng := range_run D1.fs
  have HD2 := Hid.mk' D2
  have HD1 := Hid.mk' D1
  have HB1 := Hid.mk' B1
  have HT1 := Hid.mk' T1
  clear D2 D1 B1 T1 H HV c0
  go_wp2_with (fail)
  obtain ⟨K, hK⟩ : ∃ K, K = w1.heap.size := ⟨_, rfl⟩
  obtain ⟨w3, hw3⟩ : ∃ w3, w3 = w1.alloc (.mapIter (some m) 1 #[] 1) := ⟨_, rfl⟩
  rw [← hK, ← hw3]
  have hi3 : w3.heap[K]? = some (.mapIter (some m) 1 #[] 1) := by rw [hw3, hK]; exact World.alloc_last _ _
  have T3 : Turn (fun _ => False) w1 w3 := by rw [hw3]; exact (Turn.refl _ _).alloc _
  have D3 := HD1.out.turn T3 id id
  have hn3 := next_run D3.fs hi3 0
  obtain ⟨w4, hw4⟩ : ∃ w4, w4 = { w3 with heap := w3.heap.setIfInBounds K (.mapIter (some m) 1 #[0] 1) } := ⟨_, rfl⟩
  rw [← hw4] at hn3
  have hlt3 : K < w3.heap.size := (Array.getElem?_eq_some_iff.1 hi3).1
  have hi4 : w4.heap[K]? = some (.mapIter (some m) 1 #[0] 1) := by rw [hw4]; simp [hlt3]
  have T4 : Turn (fun k => k = K) w3 w4 := by rw [hw4]; exact ⟨rfl, rfl, rfl, by simp, fun k _ hk => by simp [Array.getElem?_setIfInBounds, Ne.symm hk]⟩
  have T14 : Turn (fun _ => False) w1 w4 := ((T3.mono (S' := fun k => k = K) (fun _ _ h => h.elim)).trans T4).mono (fun k hk e => by omega)
  have D4 := HD1.out.turn T14 id id
  have he4 := entry_run D4.fs hi4
  have E4 := HD2.out.turn T14 id id
  have B4 := T14.bytes HB1.out (fun _ _ _ => id)
  have e4 := E4.c0
  obtain ⟨av, cv, rfl⟩ := B4.len
  have HD4 := Hid.mk' D4
  have HE4 := Hid.mk' E4
  have HB4 := Hid.mk' B4
  have HT4 := Hid.mk' T14
  have HKK := Hid.mk' (And.intro hK (And.intro hlt3 hi4))
  clear hw4 T3 T4 T14 D3 D4 E4 B4 hrng e0 hi3 hi4 hw3 hK hlt3
  refine wp_loop_rounds 2 ?_
  rw [rounds_succ]
  go_wp2_with (fail)
  go_region_held3 (fun w' => w'.cell? ⟨d2, 0, none⟩ = some (.map (some m2)))
    (first | exact e4 | exact S9.out | exact S10.out)
    (first
    | (go_at_call 26; refine (clone_any r0 d2 l _ w4.drew HB4.out HE4.out.lt (by omega)).mono ?_
       rintro e w9 ⟨v9, rfl, hb9, hbl0⟩
       obtain ⟨a9, q9, hv9⟩ := hb9.len
       obtain ⟨N9, hN9⟩ : ∃ N9, N9 = l.length := ⟨_, rfl⟩
       rw [← hN9] at hv9
       subst hv9
       have hbl9 : Below w4.heap.size w4 w9 := below_drew hbl0
       have T9 := Turn.below (S := fun _ => False) hbl9 (fun k h1 h2 => absurd h1 (by omega))
       have D9 : DiskAt w9 d2 m2 none 0 := HE4.out.turn T9 id id
       obtain ⟨w10, hu, hf10, ht10⟩ := upd_empty D9.fs (.slice a9 N9 q9)
       have S9 := Hid.mk' D9.c0
       have S10 := Hid.mk' (ht10.cell D9.c0 D9.ne)
       have Z1 := Hid.mk' hf10
       have Z2 := Hid.mk' ht10
       have Z3 := Hid.mk' hb9
       have Z4 := Hid.mk' T9
       have Z5 := Hid.mk' D9
       have HN := Hid.mk' hN9
       clear hf10 ht10 hb9 hbl9 D9 hbl0 T9 hN9))
  have hm2K : m2 < K := by rw [HKK.out.1]; exact HD2.out.fs.lt
  have hsz4 : w4.heap.size ≤ w9.heap.size := Z4.out.size
  have hi9 : w9.heap[K]? = some (.mapIter (some m) 1 #[0] 1) := (Z4.out.block K (Array.getElem?_eq_some_iff.1 HKK.out.2.2).1 id).trans HKK.out.2.2
  have hi10 : w10.heap[K]? = some (.mapIter (some m) 1 #[0] 1) := (Z2.out.block K (Array.getElem?_eq_some_iff.1 hi9).1 (show ¬ K = m2 by omega)).trans hi9
  have hL := HL.out
  have D10 : DiskAt w10 d m (some (.slice av l.length cv)) cnt := (HD4.out.turn Z4.out id id).turn Z2.out (show ¬ d = m2 by omega) (show ¬ m = m2 by omega)
  have hn10 := next_done D10.fs hi10 0
  clear hi9 hi10 D10 hL hm2K hsz4
  simp only [go_sem]
  rw [rounds_succ]
  go_wp2_with (fail)
  go_ret
  refine ⟨d2, m2, _, rfl, ⟨Z2.out.cell Z5.out.c0 Z5.out.ne, Z2.out.cell Z5.out.c1 Z5.out.ne, Z2.out.cell Z5.out.c3 Z5.out.ne, (Z2.out.frozen Z5.out.lt Z5.out.ne).trans Z5.out.z1, Z1.out⟩, ?_, hd2, hm2, rfl, ?_⟩
  · have hs := HT1.out.size
    have hs2 := HT4.out.size
    have hs3 := HE4.out.fs.lt
    exact (Z2.out.bytes Z3.out (fun k hk _ e => by have : w4.heap.size ≤ k := hk.1; omega)).imp fun k hk => (by have : w4.heap.size ≤ k := hk.1; omega)
  · exact (((HT1.out.trans (HT4.out.trans Z4.out)).mono (S' := fun k => k = m2) (fun k _ h => h.elim)).trans Z2.out).mono (fun k hk e => by omega)
end Go.Proofs

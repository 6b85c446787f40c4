/- A part of the proof of AuditNone: the runs of the document's example and of the law's body, and facts of the row. Conditions: none. -/
import Derived.Test.YtoohpocfhfemnaaGreatDoorWalkG
import Derived.Deep.AppendLies
namespace Go.Proofs
open Go.Shelf Go.RowKit Go.Lib
variable {I : Nat → Prop}

/-- Is it a tree? (l: behind the first byte) -/
def treeOk (l : List UInt8) : Bool :=
  match treeL (l.length + 2) (uintF l 0).2.1 (uintF l 0).2.2 (uintF l 0).1 [] with
  | none => false
  | some (es, l', e) => endF l' e == 0 && treeF es == 0

theorem round_done {w w9 w10 : World} {N X r g cap : Nat} {vs : Value} {es : List Ent} {st : ByteArray} {bf : Bool} {id9 : Int} {l9 : List UInt8} {e9 : Int} (hNw : w.heap.size ≤ N) (hXN : N + 1 ≤ X) (HV : ∀ k, vs.ownBlock = some k → N + 1 ≤ k ∧ k < X) (hrlt : r < N)
    (kbl : Below w.heap.size w w9) (hr9 : Rd w9 r (fun k => w.heap.size ≤ k ∧ k < N) l9 e9) (ksz : w9.heap.size = X + 1) (ktc : w9.cell? ⟨N, 0, none⟩ = some vs) (ktf : w9.frozen? ⟨N, 0, none⟩ = false) (hr0 : w.heap.size ≤ r)
    (hown10 : w10.ownsRow (N + 1) 138 3 (.slice (some ⟨g, 0, none⟩) (es.length + 1) cap) (es.length + 1) (entCells es ++ [.string st, .bool bf, .int .u64 id9]))
    (hgrow10 : ((w9.setCell ⟨X, 2, none⟩ (.int .u64 id9)).alloc (Obj.cells #[Value.string st, Value.bool bf, Value.int IntKind.u64 id9] 138)).grownBy w10 vs.ownBlock) :
    w10.cell? ⟨N, 0, none⟩ = some vs ∧ w10.frozen? ⟨N, 0, none⟩ = false ∧ Rd (w10.setCell ⟨N, 0, none⟩ (.slice (some ⟨g, 0, none⟩) (es.length + 1) cap)) r (fun k => w.heap.size ≤ k ∧ k < N) l9 e9 ∧
      (w10.setCell ⟨N, 0, none⟩ (.slice (some ⟨g, 0, none⟩) (es.length + 1) cap)).cell? ⟨N, 0, none⟩ = some (.slice (some ⟨g, 0, none⟩) (es.length + 1) cap) ∧ (w10.setCell ⟨N, 0, none⟩ (.slice (some ⟨g, 0, none⟩) (es.length + 1) cap)).frozen? ⟨N, 0, none⟩ = false ∧
      (w10.setCell ⟨N, 0, none⟩ (.slice (some ⟨g, 0, none⟩) (es.length + 1) cap)).ownsRow (N + 1) 138 3 (.slice (some ⟨g, 0, none⟩) (es.length + 1) cap) (es ++ [(st, bf, id9)]).length (entCells (es ++ [(st, bf, id9)])) ∧
      Below w.heap.size w (w10.setCell ⟨N, 0, none⟩ (.slice (some ⟨g, 0, none⟩) (es.length + 1) cap)) ∧ N + 1 ≤ (w10.setCell ⟨N, 0, none⟩ (.slice (some ⟨g, 0, none⟩) (es.length + 1) cap)).heap.size := by
  have hT1 : Turn (fun k => k = X ∨ vs.ownBlock = some k) w9 w10 := (((Turn.refl (fun k => k = X ∨ vs.ownBlock = some k) _).setCell (p := ⟨X, 2, none⟩) (.inl rfl) _).alloc _).grown hgrow10 (fun k hk => .inr hk)
  have hNn : ¬ (N = X ∨ vs.ownBlock = some N) := by
    rintro (h | h)
    · omega
    · have := HV N h; omega
  have hc := hT1.cell ktc hNn
  have hf := (hT1.frozen (p := ⟨N, 0, none⟩) (show N < w9.heap.size by omega) hNn).trans ktf
  have hT2 : Turn (fun k => k = X ∨ k = N ∨ vs.ownBlock = some k) w9 (w10.setCell ⟨N, 0, none⟩ (.slice (some ⟨g, 0, none⟩) (es.length + 1) cap)) := (hT1.mono (fun k _ h => h.elim .inl fun h => .inr (.inr h))).setCell (p := ⟨N, 0, none⟩) (.inr (.inl rfl)) _
  have hg := (hown10.lt g rfl).1
  refine ⟨hc, hf, hT2.rd hr9 ?_ ?_, World.cell?_setCell_same _ _ _ hc, (World.frozen?_setCell _ _ _ _).trans hf, ?_, ?_, ?_⟩
  · rintro (h | h | h)
    · omega
    · omega
    · have := HV r h; omega
  · rintro k ⟨hk, hk2⟩ _ (h | h | h)
    · omega
    · omega
    · have := HV k h; omega
  · rw [entCells_snoc, List.length_append]
    exact ((Turn.refl (fun k => k = N) w10).setCell (p := ⟨N, 0, none⟩) rfl _).owns hown10 (fun k hk e => absurd (show g = k by simpa [Value.ownBlock] using hk) (by omega))
  · refine kbl.trans (hT2.toBelow kbl.size ?_)
    rintro k _ (h | h | h)
    · omega
    · omega
    · have := HV k h; omega
  · have := hT2.size; omega

set_option maxRecDepth 1000000 in
set_option maxHeartbeats 4000000 in
theorem dec_tree (r0 : Nat) (l : List UInt8) (v : Value) (w : World) (h : BytesOff w r0 I v l) (h0 : 0 < w.heap.size) (hl : l.length ≤ 1000000) (hb : (byteF l 0).1 = 116) :
    Calls Tryz.prog 24 #[v] w fun e w' => (∃ x, e = .returned (.tuple #[x, .int .i64 (if treeOk (l.drop 1) = true then 0 else 8)])) ∧ Below w.heap.size w w' := by
  obtain ⟨hbe, hlen⟩ := byte_first l 116 hb (by decide)
  generalize l.drop 1 = l1 at hbe hlen ⊢
  obtain ⟨E, hE⟩ : ∃ E : Int, E = if treeOk l1 = true then 0 else 8 := ⟨_, rfl⟩
  rw [← hE]
  have HE := Hid.mk' hE
  clear hE
  have H := Hid.mk' h
  clear h hb
  have t134 : Tryz.prog.underlying 134 = some (.slice 138) := by kernel_rfl
  have i138 : (Tryz.prog.info? 138).map (fun i => (i.zero, i.size, i.bytes)) = some (some (.agg #[.string ByteArray.empty, .bool false, .int .u64 0]), 3, 32) := by kernel_rfl
  obtain ⟨i0, hi, hz0, hz1, hz2⟩ := info_parts i138
  go_enter Tryz.func24, Tryz.ntmps24
  go_wp2_with (fail)
  refine (read_any r0 _ v w H.out h0 (by omega)).mono ?_
  rintro e w1 ⟨r, rfl, hr0, hr1, hr, hB⟩
  go_wp2_with (fail)
  refine (byte_any r _ 0 w1 hr).mono ?_
  rintro e w2 ⟨rfl, hr2, ho2⟩
  rw [hbe] at hr2 ⊢
  simp only at hr2 ⊢
  have hB2 : Below w.heap.size w w2 := hB.trans (ho2.under hr0)
  have hs12 : w1.heap.size = w2.heap.size := ho2.size.symm
  have hr3 : Rd (w2.alloc (Obj.cells #[Value.slice none 0 0] 136)) r (fun k => w.heap.size ≤ k ∧ k < w2.heap.size) l1 0 := by
    rw [← hs12]
    exact hr2.below (B := w2.heap.size) ((Below.refl _ _).alloc (Nat.le_refl _) _) hr2.lt (fun k _ hk => hk)
  have ht0 : (w2.alloc (Obj.cells #[Value.slice none 0 0] 136)).cell? ⟨w2.heap.size, 0, none⟩ = some (.slice none 0 0) := row_cell _ _ _ 0 _ rfl
  have htf : (w2.alloc (Obj.cells #[Value.slice none 0 0] 136)).frozen? ⟨w2.heap.size, 0, none⟩ = false := World.frozen?_alloc_at _ _ _ _ rfl
  have hB3 : Below w.heap.size w (w2.alloc (Obj.cells #[Value.slice none 0 0] 136)) := hB2.alloc hB2.size _
  have hs3 : (w2.alloc (Obj.cells #[Value.slice none 0 0] 136)).heap.size = w2.heap.size + 1 := World.size_alloc _ _
  go_wp2_with (fail)
  generalize w2.alloc (Obj.cells #[Value.slice none 0 0] 136) = w3 at hr3 ht0 htf hB3 hs3 ⊢
  refine (uint_any r l1 0 w3 hr3 (by omega)).mono ?_
  rintro e w4 ⟨rfl, hr4, ho4⟩
  have hrlt : r < w2.heap.size := by rw [← hs12]; exact hr1
  have ht4 : w4.cell? ⟨w2.heap.size, 0, none⟩ = some (.slice none 0 0) := (ho4.cell (by omega)).trans ht0
  have htf4 : w4.frozen? ⟨w2.heap.size, 0, none⟩ = false := (ho4.frozen _).trans htf
  have hB4 : Below w.heap.size w w4 := hB3.trans (ho4.under hr0)
  have hs4 : w4.heap.size = w2.heap.size + 1 := ho4.size.trans hs3
  have hul := uintF_left l1 0
  have hur := uintF_range l1 0
  have HT : Hid (treeOk l1 = match treeL (l1.length + 2) (uintF l1 0).2.1 (uintF l1 0).2.2 (uintF l1 0).1 [] with | none => false | some (es, l', e) => endF l' e == 0 && treeF es == 0) := rfl
  generalize uintF l1 0 = u at hr4 hul hur HT ⊢
  obtain ⟨n0, l4, e4⟩ := u
  simp only at hr4 hul hur HT ⊢
  have hlive : live (0 : Int) = 1 := rfl
  rw [hlive] at hul
  clear hr2 hr hB hr3 ht0 htf hB3 ho4 ho2 hB2 hbe hlive
  obtain ⟨N, hN⟩ : ∃ N, N = w2.heap.size := ⟨_, rfl⟩
  rw [← hN] at hr4 ht4 htf4 hs4 hrlt ⊢
  clear hN hs3 hs12 hr1
  have hNw : w.heap.size ≤ N := by omega
  go_wp2_with (fail)
  go_loopw [7] (fun n wr => ∃ (fuel : Nat) (lr : List UInt8) (er nr : Int) (es : List Ent) (vs : Value), n = .int .u64 nr ∧ Hid (treeL fuel lr er nr es = treeL (l1.length + 2) l4 e4 n0 []) ∧ lr.length + live er < fuel ∧ es.length + lr.length + live er ≤ l1.length + 1 ∧ 0 ≤ nr ∧ nr < 18446744073709551616 ∧ (∀ x ∈ es, x.1.size ≤ 1000000000) ∧
      Rd wr r (fun k => w.heap.size ≤ k ∧ k < N) lr er ∧ wr.cell? ⟨N, 0, none⟩ = some vs ∧ wr.frozen? ⟨N, 0, none⟩ = false ∧ wr.ownsRow (N + 1) 138 3 vs es.length (entCells es) ∧ Below w.heap.size w wr ∧ N + 1 ≤ wr.heap.size) (fun _ wr => rdLeft wr r)
  case atStart =>
    exact ⟨l1.length + 2, l4, e4, n0, [], _, rfl, rfl, by omega, by simp; omega, hur.1, hur.2, by simp, hr4, ht4, htf4, World.ownsRow_nil _ _ _ _, hB4, by omega⟩
  case round =>
    obtain ⟨fuel, lr, er, nr, es, vs, rfl, HL, hfu, hsum, hn0, hn1, hes, hrd, htc, htf, hown, hbl, hsz⟩ := hrel
    obtain ⟨fuel, rfl⟩ : ∃ f, fuel = f + 1 := ⟨fuel - 1, by omega⟩
    have hmeas := rdLeft_eq hrd
    by_cases hn : 0 < nr
    · go_wp2_with (fail)
      refine (err_any r _ _ wr hrd).mono ?_
      rintro e w5 ⟨rfl, rfl⟩
      by_cases he : er = 0
      · subst he
        go_wp2_with (fail)
        have hne : N ≠ r := by omega
        have htl := textF_left lr 32 0 rfl
        have htn := textF_len lr 32 0
        have HS : Hid (∀ es', treeL (fuel + 1) lr 0 nr es' = if (byteF (textF lr 32 0).2.1 (textF lr 32 0).2.2).1 = 0 ∨ (byteF (textF lr 32 0).2.1 (textF lr 32 0).2.2).1 = 1 then
        treeL fuel (wordF (byteF (textF lr 32 0).2.1 (textF lr 32 0).2.2).2.1 (byteF (textF lr 32 0).2.1 (textF lr 32 0).2.2).2.2).2.1
          (wordF (byteF (textF lr 32 0).2.1 (textF lr 32 0).2.2).2.1 (byteF (textF lr 32 0).2.1 (textF lr 32 0).2.2).2.2).2.2 (nr - 1)
          (es' ++ [(textOf (textF lr 32 0).1, (byteF (textF lr 32 0).2.1 (textF lr 32 0).2.2).1 == 1, (wordF (byteF (textF lr 32 0).2.1 (textF lr 32 0).2.2).2.1 (byteF (textF lr 32 0).2.1 (textF lr 32 0).2.2).2.2).1)])
      else none) := fun es' => by rw [treeL, if_pos ⟨hn, rfl⟩]
        refine (text_any r 32 lr 0 w5 hrd (by omega) (by omega)).mono ?_
        rintro e w6 ⟨rfl, hr6, ho6⟩
        have htc6 : w6.cell? ⟨N, 0, none⟩ = some vs := (ho6.cell hne).trans htc
        have htf6 : w6.frozen? ⟨N, 0, none⟩ = false := (ho6.frozen _).trans htf
        have hown6 : w6.ownsRow (N + 1) 138 3 vs es.length (entCells es) := (Turn.only (S := fun k => k = r) ho6 rfl).owns hown (fun k hk e => by have := (hown.lt k hk).1; omega)
        have hbl6 : Below w.heap.size w w6 := hbl.trans (ho6.under hr0)
        have hsz6 : N + 1 ≤ w6.heap.size := by rw [ho6.size]; exact hsz
        clear hrd htc htf hown hbl hsz ho6
        generalize textF lr 32 0 = tt at hr6 htl htn HS ⊢
        obtain ⟨s6, l6, e6⟩ := tt
        simp only at hr6 htl htn HS ⊢
        generalize hst : textOf s6 = st at HS ⊢
        have hsts : st.size ≤ 32 := by rw [← hst, textOf_size]; exact htn
        clear hst htn
        go_wp2_with (fail)
        obtain ⟨X, hX⟩ : ∃ X, X = w6.heap.size := ⟨_, rfl⟩
        have c0 : (w6.alloc (Obj.cells #[Value.string st, Value.bool false, Value.int IntKind.u64 0] 138)).cell? ⟨X, 0, none⟩ = some (.string st) := by rw [hX]; exact row_cell _ _ _ 0 _ rfl
        have c1 : (w6.alloc (Obj.cells #[Value.string st, Value.bool false, Value.int IntKind.u64 0] 138)).cell? ⟨X, 1, none⟩ = some (.bool false) := by rw [hX]; exact row_cell _ _ _ 1 _ rfl
        have c2 : (w6.alloc (Obj.cells #[Value.string st, Value.bool false, Value.int IntKind.u64 0] 138)).cell? ⟨X, 2, none⟩ = some (.int .u64 0) := by rw [hX]; exact row_cell _ _ _ 2 _ rfl
        have d1 : (w6.alloc (Obj.cells #[Value.string st, Value.bool false, Value.int IntKind.u64 0] 138)).frozen? ⟨X, 1, none⟩ = false := by rw [hX]; exact World.frozen?_alloc_at _ _ _ _ rfl
        have d2 : (w6.alloc (Obj.cells #[Value.string st, Value.bool false, Value.int IntKind.u64 0] 138)).frozen? ⟨X, 2, none⟩ = false := by rw [hX]; exact World.frozen?_alloc_at _ _ _ _ rfl
        have hT : Turn (fun _ => False) w6 (w6.alloc (Obj.cells #[Value.string st, Value.bool false, Value.int IntKind.u64 0] 138)) := (Turn.refl _ _).alloc _
        have hr7 := hT.rd hr6 id (fun _ _ _ => id)
        have htc7 := hT.cell htc6 id
        have htf7 := (hT.frozen (p := ⟨N, 0, none⟩) (show N < w6.heap.size by omega) id).trans htf6
        have hown7 := hT.owns hown6 (fun _ _ => id)
        have HV : Hid (∀ k, vs.ownBlock = some k → N + 1 ≤ k ∧ k < X) := fun k hk => by rw [hX]; exact hown6.lt k hk
        have hbl7 : Below w.heap.size w _ := hbl6.alloc hbl6.size (Obj.cells #[Value.string st, Value.bool false, Value.int IntKind.u64 0] 138)
        have hsz7 : (w6.alloc (Obj.cells #[Value.string st, Value.bool false, Value.int IntKind.u64 0] 138)).heap.size = X + 1 := by rw [hX]; exact World.size_alloc _ _
        have hXN : N + 1 ≤ X := by rw [hX]; exact hsz6
        rw [← hX]
        generalize w6.alloc (Obj.cells #[Value.string st, Value.bool false, Value.int IntKind.u64 0] 138) = w7 at c0 c1 c2 d1 d2 hr7 htc7 htf7 hown7 hbl7 hsz7 ⊢
        clear hT hr6 htc6 htf6 hown6 hbl6 hsz6 hX
        have hbyl := byteF_left l6 e6
        refine (byte_any r l6 e6 w7 hr7).mono ?_
        rintro e w8 ⟨rfl, hr8, ho8⟩
        have hT8 : Turn (fun k => k = r) w7 w8 := Turn.only ho8 rfl
        have hXr : X ≠ r := by omega
        replace c0 := hT8.cell c0 hXr
        replace c1 := hT8.cell c1 hXr
        replace c2 := hT8.cell c2 hXr
        replace d1 := (hT8.frozen (p := ⟨X, 1, none⟩) (show X < w7.heap.size by omega) hXr).trans d1
        replace d2 := (hT8.frozen (p := ⟨X, 2, none⟩) (show X < w7.heap.size by omega) hXr).trans d2
        have htc8 := hT8.cell htc7 hne
        have htf8 := (hT8.frozen (p := ⟨N, 0, none⟩) (show N < w7.heap.size by omega) hne).trans htf7
        have hown8 := hT8.owns hown7 (fun k hk e => by have := (hown7.lt k hk).1; omega)
        have hbl8 : Below w.heap.size w w8 := hbl7.trans (ho8.under hr0)
        have hsz8 : w8.heap.size = X + 1 := ho8.size.trans hsz7
        clear hT8 ho8 hr7 htc7 htf7 hown7 hbl7 hsz7
        generalize byteF l6 e6 = bb at hr8 hbyl HS ⊢
        obtain ⟨b8, l8, e8⟩ := bb
        simp only at hr8 hbyl HS ⊢
        by_cases hb01 : b8 = 0 ∨ b8 = 1
        · have HN : Hid (treeL fuel (wordF l8 e8).2.1 (wordF l8 e8).2.2 (nr - 1) (es ++ [(st, b8 == 1, (wordF l8 e8).1)]) = treeL (l1.length + 2) l4 e4 n0 []) := by rw [← HL.out, HS.out, if_pos hb01]; rfl
          clear HS HL
          have hdat : ∃ W, W.cell? ⟨X, 0, none⟩ = some (.string st) ∧ W.cell? ⟨X, 1, none⟩ = some (.bool (b8 == 1)) ∧ W.cell? ⟨X, 2, none⟩ = some (.int .u64 0) ∧ W.frozen? ⟨X, 2, none⟩ = false ∧ Rd W r (fun k => w.heap.size ≤ k ∧ k < N) l8 e8 ∧ W.cell? ⟨N, 0, none⟩ = some vs ∧ W.frozen? ⟨N, 0, none⟩ = false ∧
            W.ownsRow (N + 1) 138 3 vs es.length (entCells es) ∧ Below w.heap.size w W ∧ W.heap.size = X + 1 ∧ W = (if b8 = 1 then w8.setCell ⟨X, 1, none⟩ (.bool true) else w8) := by
            by_cases h1 : b8 = 1
            · rw [if_pos h1]
              have hT9 : Turn (fun k => k = X) w8 (w8.setCell ⟨X, 1, none⟩ (.bool true)) := (Turn.refl (fun k => k = X) _).setCell (p := ⟨X, 1, none⟩) rfl _
              subst h1
              exact ⟨_, (World.cell?_setCell_other _ _ _ _ (by simp)).trans c0, World.cell?_setCell_same _ _ _ c1, (World.cell?_setCell_other _ _ _ _ (by simp)).trans c2, (World.frozen?_setCell _ _ _ _).trans d2,
                hT9.rd hr8 (Ne.symm hXr) (fun k hk _ e => by have := hk.2; omega), hT9.cell htc8 (by show N ≠ X; omega), (World.frozen?_setCell _ _ _ _).trans htf8, hT9.owns hown8 (fun k hk e => by have := HV.out k hk; omega), hbl8.setCell (p := ⟨X, 1, none⟩) (by show w.heap.size ≤ X; omega) _, by simpa using hsz8, rfl⟩
            · rw [if_neg h1]
              rw [show (b8 == 1) = false by simpa using h1]
              exact ⟨w8, c0, c1, c2, d2, hr8, htc8, htf8, hown8, hbl8, hsz8, rfl⟩
          obtain ⟨W, k0, k1, k2, kf, krd, ktc, ktf, kown, kbl, ksz, hW⟩ := hdat
          have hwl := wordF_left l8 e8
          rcases hb01 with rfl | rfl
          · simp at hW
            subst hW
            clear c0 c1 c2 d1 d2 hr8 htc8 htf8 hown8 hbl8 hsz8
            go_wp2_with (fail)
            refine (word_any r l8 e8 _ krd).mono ?_
            rintro e w9 ⟨rfl, hr9, ho9⟩
            have hT9 : Turn (fun k => k = r) _ w9 := Turn.only (S := fun k => k = r) ho9 rfl
            replace k0 := hT9.cell k0 hXr
            replace k1 : w9.cell? ⟨X, 1, none⟩ = some (.bool false) := hT9.cell k1 hXr
            replace k2 := hT9.cell k2 hXr
            replace kf := (hT9.frozen (p := ⟨X, 2, none⟩) (by rw [ksz]; exact Nat.lt_succ_self X) hXr).trans kf
            replace ktc := hT9.cell ktc hne
            replace ktf := (hT9.frozen (p := ⟨N, 0, none⟩) (by rw [ksz]; show N < X + 1; omega) hne).trans ktf
            replace kown := hT9.owns kown (fun k hk e => by have := HV.out k hk; omega)
            replace kbl : Below w.heap.size w w9 := kbl.trans (ho9.under hr0)
            replace ksz : w9.heap.size = X + 1 := ho9.size.trans ksz
            clear hT9 ho9 krd
            generalize wordF l8 e8 = ww at hr9 hwl HN ⊢
            obtain ⟨id9, l9, e9⟩ := ww
            simp only at hr9 hwl HN ⊢
            have hT10 : Turn (fun k => k = X) w9 ((w9.setCell ⟨X, 2, none⟩ (.int .u64 id9)).alloc (Obj.cells #[Value.string st, Value.bool false, Value.int IntKind.u64 id9] 138)) := ((Turn.refl (fun k => k = X) _).setCell (p := ⟨X, 2, none⟩) rfl _).alloc _
            have hNX : N ≠ X := by omega
            have KO : Hid (((w9.setCell ⟨X, 2, none⟩ (.int .u64 id9)).alloc (Obj.cells #[Value.string st, Value.bool false, Value.int IntKind.u64 id9] 138)).ownsRow (N + 1) 138 3 vs es.length (entCells es)) := hT10.owns kown (fun k hk e => by have := HV.out k hk; omega)
            have hW1s : (w9.setCell ⟨X, 2, none⟩ (.int .u64 id9)).heap.size = X + 1 := by simpa using ksz
            have HB : Hid (((w9.setCell ⟨X, 2, none⟩ (.int .u64 id9)).alloc (Obj.cells #[Value.string st, Value.bool false, Value.int IntKind.u64 id9] 138)).heap[X + 1]? = some (Obj.cells #[Value.string st, Value.bool false, Value.int IntKind.u64 id9] 138)) := by have := World.alloc_last (w9.setCell ⟨X, 2, none⟩ (.int .u64 id9)) (Obj.cells #[Value.string st, Value.bool false, Value.int IntKind.u64 id9] 138); rwa [hW1s] at this
            have HZ : Hid (N + 1 ≤ ((w9.setCell ⟨X, 2, none⟩ (.int .u64 id9)).alloc (Obj.cells #[Value.string st, Value.bool false, Value.int IntKind.u64 id9] 138)).heap.size) := by have := World.size_alloc (w9.setCell ⟨X, 2, none⟩ (.int .u64 id9)) (Obj.cells #[Value.string st, Value.bool false, Value.int IntKind.u64 id9] 138); show _ ≤ _; omega
            clear hW1s
            go_wp2_with (at_builtin; refine wpList_append_lies _ rfl _ _ 134 rfl (N + 1) 138 i0 (.agg #[.string ByteArray.empty, .bool false, .int .u64 0]) 3 32 t134 hi hz0 hz1 hz2 rfl (by decide) vs es.length (entCells es) rfl KO.out ⟨X + 1, 0, none⟩ 1 1 [.string st, .bool false, .int .u64 id9] rfl rfl (World.news_of_block HB.out) (by intro u hu; simp at hu; rcases hu with rfl | rfl | rfl <;> rfl) (by decide) (by unfold maxLen; omega) (by omega) HZ.out _ rfl ?_; intro g cap w10 hown10 hgrow10 hat10 hlt10; have HD := Hid.mk' (round_done hNw hXN HV.out hrlt kbl hr9 ksz ktc ktf hr0 hown10 hgrow10); have htc10 := HD.out.1; have htf10 := HD.out.2.1)
            obtain ⟨_, _, q1, q2, q3, q4, q5, q6⟩ := HD.out
            have hlv : live (0 : Int) = 1 := rfl
            rw [hlv] at hfu hsum
            refine ⟨⟨fuel, l9, e9, nr - 1, es ++ [(st, false, id9)], _, rfl, HN, by omega, by simp; omega, by omega, by omega, ?_, q1, q2, q3, q4, q5, q6⟩, ?_⟩
            · intro x hx
              rcases List.mem_append.1 hx with hx | hx
              · exact hes x hx
              · obtain rfl := List.mem_singleton.1 hx
                show st.size ≤ _
                omega
            · rw [rdLeft_eq q1, hmeas]
              show _ < lr.length + 1
              omega
          · simp at hW
            go_wp2_with (fail)
            rw [← hW]
            clear hW c0 c1 c2 d1 d2 hr8 htc8 htf8 hown8 hbl8 hsz8
            refine (word_any r l8 e8 _ krd).mono ?_
            rintro e w9 ⟨rfl, hr9, ho9⟩
            have hT9 : Turn (fun k => k = r) _ w9 := Turn.only (S := fun k => k = r) ho9 rfl
            replace k0 := hT9.cell k0 hXr
            replace k1 : w9.cell? ⟨X, 1, none⟩ = some (.bool true) := hT9.cell k1 hXr
            replace k2 := hT9.cell k2 hXr
            replace kf := (hT9.frozen (p := ⟨X, 2, none⟩) (by rw [ksz]; exact Nat.lt_succ_self X) hXr).trans kf
            replace ktc := hT9.cell ktc hne
            replace ktf := (hT9.frozen (p := ⟨N, 0, none⟩) (by rw [ksz]; show N < X + 1; omega) hne).trans ktf
            replace kown := hT9.owns kown (fun k hk e => by have := HV.out k hk; omega)
            replace kbl : Below w.heap.size w w9 := kbl.trans (ho9.under hr0)
            replace ksz : w9.heap.size = X + 1 := ho9.size.trans ksz
            clear hT9 ho9 krd
            generalize wordF l8 e8 = ww at hr9 hwl HN ⊢
            obtain ⟨id9, l9, e9⟩ := ww
            simp only at hr9 hwl HN ⊢
            have hT10 : Turn (fun k => k = X) w9 ((w9.setCell ⟨X, 2, none⟩ (.int .u64 id9)).alloc (Obj.cells #[Value.string st, Value.bool true, Value.int IntKind.u64 id9] 138)) := ((Turn.refl (fun k => k = X) _).setCell (p := ⟨X, 2, none⟩) rfl _).alloc _
            have hNX : N ≠ X := by omega
            have KO : Hid (((w9.setCell ⟨X, 2, none⟩ (.int .u64 id9)).alloc (Obj.cells #[Value.string st, Value.bool true, Value.int IntKind.u64 id9] 138)).ownsRow (N + 1) 138 3 vs es.length (entCells es)) := hT10.owns kown (fun k hk e => by have := HV.out k hk; omega)
            have hW1s : (w9.setCell ⟨X, 2, none⟩ (.int .u64 id9)).heap.size = X + 1 := by simpa using ksz
            have HB : Hid (((w9.setCell ⟨X, 2, none⟩ (.int .u64 id9)).alloc (Obj.cells #[Value.string st, Value.bool true, Value.int IntKind.u64 id9] 138)).heap[X + 1]? = some (Obj.cells #[Value.string st, Value.bool true, Value.int IntKind.u64 id9] 138)) := by have := World.alloc_last (w9.setCell ⟨X, 2, none⟩ (.int .u64 id9)) (Obj.cells #[Value.string st, Value.bool true, Value.int IntKind.u64 id9] 138); rwa [hW1s] at this
            have HZ : Hid (N + 1 ≤ ((w9.setCell ⟨X, 2, none⟩ (.int .u64 id9)).alloc (Obj.cells #[Value.string st, Value.bool true, Value.int IntKind.u64 id9] 138)).heap.size) := by have := World.size_alloc (w9.setCell ⟨X, 2, none⟩ (.int .u64 id9)) (Obj.cells #[Value.string st, Value.bool true, Value.int IntKind.u64 id9] 138); show _ ≤ _; omega
            clear hW1s
            go_wp2_with (at_builtin; refine wpList_append_lies _ rfl _ _ 134 rfl (N + 1) 138 i0 (.agg #[.string ByteArray.empty, .bool false, .int .u64 0]) 3 32 t134 hi hz0 hz1 hz2 rfl (by decide) vs es.length (entCells es) rfl KO.out ⟨X + 1, 0, none⟩ 1 1 [.string st, .bool true, .int .u64 id9] rfl rfl (World.news_of_block HB.out) (by intro u hu; simp at hu; rcases hu with rfl | rfl | rfl <;> rfl) (by decide) (by unfold maxLen; omega) (by omega) HZ.out _ rfl ?_; intro g cap w10 hown10 hgrow10 hat10 hlt10; have HD := Hid.mk' (round_done hNw hXN HV.out hrlt kbl hr9 ksz ktc ktf hr0 hown10 hgrow10); have htc10 := HD.out.1; have htf10 := HD.out.2.1)
            obtain ⟨_, _, q1, q2, q3, q4, q5, q6⟩ := HD.out
            have hlv : live (0 : Int) = 1 := rfl
            rw [hlv] at hfu hsum
            refine ⟨⟨fuel, l9, e9, nr - 1, es ++ [(st, true, id9)], _, rfl, HN, by omega, by simp; omega, by omega, by omega, ?_, q1, q2, q3, q4, q5, q6⟩, ?_⟩
            · intro x hx
              rcases List.mem_append.1 hx with hx | hx
              · exact hes x hx
              · obtain rfl := List.mem_singleton.1 hx
                show st.size ≤ _
                omega
            · rw [rdLeft_eq q1, hmeas]
              show _ < lr.length + 1
              omega
        · have hb0 : (b8 == 0) = false := by simp; omega
          have hb1 : (b8 == 1) = false := by simp; omega
          have HN : Hid (treeL (l1.length + 2) l4 e4 n0 [] = none) := by rw [← HL.out, HS.out, if_neg hb01]; rfl
          have HE2 : Hid (E = 8) := by
            rw [HE.out, HT.out, HN.out]; rfl
          clear hb01 HS HL HT HE HN
          go_wp2_with (fail)
          go_ret2
          exact ⟨⟨_, by rw [HE2.out]; rfl⟩, hbl8⟩
      · have he' : (er == 0) = false := by simpa using he
        have HN : Hid (treeL (l1.length + 2) l4 e4 n0 [] = some (es, lr, er)) := by rw [← HL.out, treeL, if_neg (by omega)]; rfl
        have HE2 : Hid (E = if (endF lr er == 0 && treeF es == 0) = true then 0 else 8) := by rw [HE.out, HT.out, HN.out]; rfl
        have hel : es.length ≤ 1000000000 := by omega
        clear HE HT HN HL hmeas
        go_wp2_with (fail)
        refine (end_any r lr er _ hrd).mono ?_
        rintro e w6 ⟨rfl, rfl⟩
        by_cases hz : endF lr er = 0
        · rw [hz]
          rw [hz] at HE2
          go_wp2_with (fail)
          refine (check_tree es vs _ hes hel (ents_of_own hown)).mono ?_
          rintro e w7 ⟨rfl, hB7⟩
          have hB8 := hbl.trans (hB7.mono hbl.size)
          by_cases hq : treeF es = 0
          · rw [hq]
            rw [hq] at HE2
            go_wp2_with (fail)
            go_ret2
            exact ⟨⟨_, by rw [HE2.out]; rfl⟩, hB8⟩
          · have hq' : (treeF es == 0) = false := by simpa using hq
            go_wp2_with (fail)
            go_ret2
            exact ⟨⟨_, by rw [HE2.out, hq']; rfl⟩, hB8⟩
        · have hz' : (endF lr er == 0) = false := by simpa using hz
          go_wp2_with (fail)
          go_ret2
          exact ⟨⟨_, by rw [HE2.out, hz']; rfl⟩, hbl⟩
    · have hn' : ¬ (0 : Int) < nr := hn
      have HN : Hid (treeL (l1.length + 2) l4 e4 n0 [] = some (es, lr, er)) := by rw [← HL.out, treeL, if_neg (by omega)]; rfl
      have HE2 : Hid (E = if (endF lr er == 0 && treeF es == 0) = true then 0 else 8) := by rw [HE.out, HT.out, HN.out]; rfl
      have hel : es.length ≤ 1000000000 := by omega
      clear HE HT HN HL hmeas
      go_wp2_with (fail)
      refine (end_any r lr er _ hrd).mono ?_
      rintro e w6 ⟨rfl, rfl⟩
      by_cases hz : endF lr er = 0
      · rw [hz]
        rw [hz] at HE2
        go_wp2_with (fail)
        refine (check_tree es vs _ hes hel (ents_of_own hown)).mono ?_
        rintro e w7 ⟨rfl, hB7⟩
        have hB8 := hbl.trans (hB7.mono hbl.size)
        by_cases hq : treeF es = 0
        · rw [hq]
          rw [hq] at HE2
          go_wp2_with (fail)
          go_ret2
          exact ⟨⟨_, by rw [HE2.out]; rfl⟩, hB8⟩
        · have hq' : (treeF es == 0) = false := by simpa using hq
          go_wp2_with (fail)
          go_ret2
          exact ⟨⟨_, by rw [HE2.out, hq']; rfl⟩, hB8⟩
      · have hz' : (endF lr er == 0) = false := by simpa using hz
        go_wp2_with (fail)
        go_ret2
        exact ⟨⟨_, by rw [HE2.out, hz']; rfl⟩, hbl⟩
end Go.Proofs

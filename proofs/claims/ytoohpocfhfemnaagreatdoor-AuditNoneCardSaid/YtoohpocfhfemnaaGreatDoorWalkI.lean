/- A part of the proof of AuditNone: the runs of the document's example and of the law's body, and facts of the row. Conditions: none. -/
import Derived.Test.YtoohpocfhfemnaaGreatDoorWalkH
import Derived.Deep.RegionLaw
namespace Go.Proofs
open Go.Shelf Go.RowKit Go.Lib
variable {I : Nat → Prop}

/-- The parents of a commit: they, what is left, the error. -/
def parL : Nat → List UInt8 → Int → Int → List Int → List Int × List UInt8 × Int
  | 0, l, e, _, ps => (ps, l, e)
  | f + 1, l, e, n, ps => if 0 < n ∧ e = 0 then parL f (wordF l e).2.1 (wordF l e).2.2 (n - 1) (ps ++ [(wordF l e).1]) else (ps, l, e)
theorem wordF_dec (l : List UInt8) (e : Int) (h : e = 0) : (wordF l e).2.1.length + live (wordF l e).2.2 < l.length + live e := by
  subst h
  unfold wordF
  rw [if_pos rfl]
  split
  · simp [live]
  · simp only [List.length_drop, live]; omega
theorem nums_of_own {w : World} {B : Nat} {v : Value} {ps : List Int} (h : w.ownsRow B 48 1 v ps.length (ps.map (Value.int .u64))) : NumsAt w v ps := by
  have h' := h
  obtain ⟨h1, h2⟩ := h
  rcases h2 with ⟨rfl, hn⟩ | ⟨g, cap, cur, rfl, hg, hh, hc, hm, hs, ht⟩
  · exact .inr ⟨rfl, List.eq_nil_of_length_eq_zero hn⟩
  · refine .inl ⟨g, 0, cap, rfl, hc, (Array.getElem?_eq_some_iff.1 hh).1, fun i x hx => ?_⟩
    have A := h'.cells (g := g) rfl i (.int .u64 x) (by rw [List.getElem?_map, hx]; rfl)
    rwa [Addr.add_lit] at A

/-- Is it a commit? (from the text on) -/
def comC (tr : Int) (ps : List Int) (a : ByteArray) (l : List UInt8) (e : Int) : Bool := endF (textF l 1024 e).2.1 (textF l 1024 e).2.2 == 0 && commitF tr ps a (textOf (textF l 1024 e).1) == 0
/-- From the date on. -/
def comB (tr : Int) (ps : List Int) (a : ByteArray) (l : List UInt8) (e : Int) : Bool := comC tr ps a (wordF l e).2.1 (wordF l e).2.2
/-- From the author on. -/
def comA (tr : Int) (p : List Int × List UInt8 × Int) : Bool := comB tr p.1 (textOf (textF p.2.1 64 p.2.2).1) (textF p.2.1 64 p.2.2).2.1 (textF p.2.1 64 p.2.2).2.2
/-- From the parents on. -/
def comU (f : Nat) (tr : Int) (l : List UInt8) (e : Int) : Bool := comA tr (parL f (uintF l e).2.1 (uintF l e).2.2 (uintF l e).1 [])
/-- Is it a commit? (l: behind the first byte) -/
def commitOk (l : List UInt8) : Bool := comU (l.length + 2) (wordF l 0).1 (wordF l 0).2.1 (wordF l 0).2.2

theorem par_done {w w9 w10 : World} {N r g cap : Nat} {vs : Value} {ps : List Int} {id9 : Int} {l9 : List UInt8} {e9 : Int} {c0 c2 c3 c4 : Value} (hNw : w.heap.size ≤ N) (HV : ∀ k, vs.ownBlock = some k → N + 1 ≤ k) (hrlt : r < N)
    (kbl : Below w.heap.size w w9) (hr9 : Rd w9 r (fun k => w.heap.size ≤ k ∧ k < N) l9 e9) (ksz : N + 1 ≤ w9.heap.size) (ktc : w9.cell? ⟨N, 1, none⟩ = some vs) (ktf : w9.frozen? ⟨N, 1, none⟩ = false) (hr0 : w.heap.size ≤ r)
    (k0 : w9.cell? ⟨N, 0, none⟩ = some c0) (k2 : w9.cell? ⟨N, 2, none⟩ = some c2) (k3 : w9.cell? ⟨N, 3, none⟩ = some c3) (k4 : w9.cell? ⟨N, 4, none⟩ = some c4) (f2 : w9.frozen? ⟨N, 2, none⟩ = false) (f3 : w9.frozen? ⟨N, 3, none⟩ = false) (f4 : w9.frozen? ⟨N, 4, none⟩ = false)
    (hown10 : w10.ownsRow (N + 1) 48 1 (.slice (some ⟨g, 0, none⟩) (ps.length + 1) cap) (ps.length + 1) (ps.map (Value.int .u64) ++ [.int .u64 id9]))
    (o : Obj) (hgrow10 : (w9.alloc o).grownBy w10 vs.ownBlock) :
    (w10.cell? ⟨N, 1, none⟩ = some vs ∧ w10.frozen? ⟨N, 1, none⟩ = false) ∧ Rd (w10.setCell ⟨N, 1, none⟩ (.slice (some ⟨g, 0, none⟩) (ps.length + 1) cap)) r (fun k => w.heap.size ≤ k ∧ k < N) l9 e9 ∧
      ((w10.setCell ⟨N, 1, none⟩ (.slice (some ⟨g, 0, none⟩) (ps.length + 1) cap)).cell? ⟨N, 0, none⟩ = some c0 ∧ (w10.setCell ⟨N, 1, none⟩ (.slice (some ⟨g, 0, none⟩) (ps.length + 1) cap)).cell? ⟨N, 1, none⟩ = some (.slice (some ⟨g, 0, none⟩) (ps.length + 1) cap) ∧ (w10.setCell ⟨N, 1, none⟩ (.slice (some ⟨g, 0, none⟩) (ps.length + 1) cap)).cell? ⟨N, 2, none⟩ = some c2 ∧ (w10.setCell ⟨N, 1, none⟩ (.slice (some ⟨g, 0, none⟩) (ps.length + 1) cap)).cell? ⟨N, 3, none⟩ = some c3 ∧ (w10.setCell ⟨N, 1, none⟩ (.slice (some ⟨g, 0, none⟩) (ps.length + 1) cap)).cell? ⟨N, 4, none⟩ = some c4) ∧
      ((w10.setCell ⟨N, 1, none⟩ (.slice (some ⟨g, 0, none⟩) (ps.length + 1) cap)).frozen? ⟨N, 1, none⟩ = false ∧ (w10.setCell ⟨N, 1, none⟩ (.slice (some ⟨g, 0, none⟩) (ps.length + 1) cap)).frozen? ⟨N, 2, none⟩ = false ∧ (w10.setCell ⟨N, 1, none⟩ (.slice (some ⟨g, 0, none⟩) (ps.length + 1) cap)).frozen? ⟨N, 3, none⟩ = false ∧ (w10.setCell ⟨N, 1, none⟩ (.slice (some ⟨g, 0, none⟩) (ps.length + 1) cap)).frozen? ⟨N, 4, none⟩ = false) ∧
      (w10.setCell ⟨N, 1, none⟩ (.slice (some ⟨g, 0, none⟩) (ps.length + 1) cap)).ownsRow (N + 1) 48 1 (.slice (some ⟨g, 0, none⟩) (ps.length + 1) cap) (ps ++ [id9]).length ((ps ++ [id9]).map (Value.int .u64)) ∧
      Below w.heap.size w (w10.setCell ⟨N, 1, none⟩ (.slice (some ⟨g, 0, none⟩) (ps.length + 1) cap)) ∧ N + 1 ≤ (w10.setCell ⟨N, 1, none⟩ (.slice (some ⟨g, 0, none⟩) (ps.length + 1) cap)).heap.size := by
  have hT1 : Turn (fun k => vs.ownBlock = some k) w9 w10 := ((Turn.refl (fun k => vs.ownBlock = some k) _).alloc _).grown hgrow10 (fun k hk => hk)
  have hNn : ¬ (vs.ownBlock = some N) := fun h => by have := HV N h; omega
  have hlt : N < w9.heap.size := by omega
  have hc := hT1.cell ktc hNn
  have hf := (hT1.frozen (p := ⟨N, 1, none⟩) hlt hNn).trans ktf
  have hT2 : Turn (fun k => k = N ∨ vs.ownBlock = some k) w9 (w10.setCell ⟨N, 1, none⟩ (.slice (some ⟨g, 0, none⟩) (ps.length + 1) cap)) := (hT1.mono (fun k _ h => .inr h)).setCell (p := ⟨N, 1, none⟩) (.inl rfl) _
  have hg := (hown10.lt g rfl).1
  have oth : ∀ k v, k ≠ 1 → w9.cell? ⟨N, k, none⟩ = some v → (w10.setCell ⟨N, 1, none⟩ (.slice (some ⟨g, 0, none⟩) (ps.length + 1) cap)).cell? ⟨N, k, none⟩ = some v := fun k v hk h =>
    (World.cell?_setCell_other _ _ _ _ (by simp)).trans (hT1.cell h hNn)
  have frz : ∀ k, w9.frozen? ⟨N, k, none⟩ = false → (w10.setCell ⟨N, 1, none⟩ (.slice (some ⟨g, 0, none⟩) (ps.length + 1) cap)).frozen? ⟨N, k, none⟩ = false := fun k h =>
    (World.frozen?_setCell _ _ _ _).trans ((hT1.frozen (p := ⟨N, k, none⟩) hlt hNn).trans h)
  refine ⟨⟨hc, hf⟩, hT2.rd hr9 ?_ ?_, ⟨oth 0 _ (by decide) k0, World.cell?_setCell_same _ _ _ hc, oth 2 _ (by decide) k2, oth 3 _ (by decide) k3, oth 4 _ (by decide) k4⟩, ⟨frz 1 ktf, frz 2 f2, frz 3 f3, frz 4 f4⟩, ?_, ?_, ?_⟩
  · rintro (h | h)
    · omega
    · have := HV r h; omega
  · rintro k ⟨hk, hk2⟩ _ (h | h)
    · omega
    · have := HV k h; omega
  · rw [List.map_append, List.length_append]
    exact ((Turn.refl (fun k => k = N) w10).setCell (p := ⟨N, 1, none⟩) rfl _).owns hown10 (fun k hk e => absurd (show g = k by simpa [Value.ownBlock] using hk) (by omega))
  · refine kbl.trans (hT2.toBelow kbl.size ?_)
    rintro k _ (h | h)
    · omega
    · have := HV k h; omega
  · have := hT2.size; omega
end Go.Proofs

namespace Go.Proofs
open Go.Shelf Go.RowKit Go.Lib
variable {I : Nat → Prop}

set_option maxRecDepth 1000000 in
set_option maxHeartbeats 8000000 in
theorem dec_commit (r0 : Nat) (l : List UInt8) (v : Value) (w : World) (h : BytesOff w r0 I v l) (h0 : 0 < w.heap.size) (hl : l.length ≤ 1000000) (hb : (byteF l 0).1 = 99) :
    Calls Tryz.prog 24 #[v] w fun e w' => (∃ x, e = .returned (.tuple #[x, .int .i64 (if commitOk (l.drop 1) = true then 0 else 8)])) ∧ Below w.heap.size w w' := by
  obtain ⟨hbe, hlen⟩ := byte_first l 99 hb (by decide)
  generalize l.drop 1 = l1 at hbe hlen ⊢
  obtain ⟨E, hE⟩ : ∃ E : Int, E = if commitOk l1 = true then 0 else 8 := ⟨_, rfl⟩
  rw [← hE]
  have mixed : Tryz.prog.follows .mixedOrders = true := by kernel_rfl
  have t67 : Tryz.prog.underlying 67 = some (.slice 48) := by kernel_rfl
  have i48 : (Tryz.prog.info? 48).map (fun i => (i.zero, i.size, i.bytes)) = some (some (.int .u64 0), 1, 8) := by kernel_rfl
  obtain ⟨i0, hi, hz0, hz1, hz2⟩ := info_parts i48
  have HE : Hid (E = if comU (l1.length + 2) (wordF l1 0).1 (wordF l1 0).2.1 (wordF l1 0).2.2 = true then 0 else 8) := hE
  have H := Hid.mk' h
  clear h hb hE
  go_enter Tryz.func24, Tryz.ntmps24
  go_wp2_with (fail)
  refine (read_any r0 _ v w H.out h0 (by omega)).mono ?_
  rintro e w1 ⟨r, rfl, hr0, hr1, hr, hB⟩
  go_wp2_with (fail)
  refine (byte_any r _ 0 w1 hr).mono ?_
  rintro e w2 ⟨rfl, hr2, ho2⟩
  rw [hbe] at hr2 ⊢
  simp only at hr2 ⊢
  have hB2 : Below w.heap.size w w2 := hB.trans (ho2.under hr0)
  have hs12 : w1.heap.size = w2.heap.size := ho2.size.symm
  rw [hs12] at hr2 hr1
  clear hB hr ho2 hbe hs12
  go_wp2_with (fail)
  refine (word_any r l1 0 w2 hr2).mono ?_
  rintro e w3 ⟨rfl, hr3, ho3⟩
  have hB3 : Below w.heap.size w w3 := hB2.trans (ho3.under hr0)
  have hwl := wordF_left l1 0
  rw [← ho3.size] at hr3 hr1
  clear hB2 hr2 ho3
  generalize wordF l1 0 = ww at hr3 hwl HE ⊢
  obtain ⟨tr, l3, e3⟩ := ww
  simp only at hr3 hwl HE ⊢
  obtain ⟨O, hO⟩ : ∃ O, O = Obj.cells #[Value.int .u64 tr, Value.slice none 0 0, Value.string { data := #[] }, Value.int .i64 0, Value.string { data := #[] }] 140 := ⟨_, rfl⟩
  obtain ⟨N, hN⟩ : ∃ N, N = w3.heap.size := ⟨_, rfl⟩
  have hr4 : Rd (w3.alloc O) r (fun k => w.heap.size ≤ k ∧ k < N) l3 e3 := by
    rw [hN]
    exact hr3.below (B := w3.heap.size) ((Below.refl _ _).alloc (Nat.le_refl _) _) hr3.lt (fun k _ hk => hk)
  have k0 : (w3.alloc O).cell? ⟨N, 0, none⟩ = some (.int .u64 tr) := by rw [hN, hO]; exact row_cell _ _ _ 0 _ rfl
  have k1 : (w3.alloc O).cell? ⟨N, 1, none⟩ = some (.slice none 0 0) := by rw [hN, hO]; exact row_cell _ _ _ 1 _ rfl
  have k2 : (w3.alloc O).cell? ⟨N, 2, none⟩ = some (.string { data := #[] }) := by rw [hN, hO]; exact row_cell _ _ _ 2 _ rfl
  have k3 : (w3.alloc O).cell? ⟨N, 3, none⟩ = some (.int .i64 0) := by rw [hN, hO]; exact row_cell _ _ _ 3 _ rfl
  have k4 : (w3.alloc O).cell? ⟨N, 4, none⟩ = some (.string { data := #[] }) := by rw [hN, hO]; exact row_cell _ _ _ 4 _ rfl
  have hf4 : ∀ k, (w3.alloc O).frozen? ⟨N, k, none⟩ = false := fun k => by rw [hN, hO]; exact World.frozen?_alloc_at _ _ _ _ rfl
  have f1 := hf4 1
  have f2 := hf4 2
  have f3 := hf4 3
  have f4 := hf4 4
  have hB4 : Below w.heap.size w (w3.alloc O) := hB3.alloc hB3.size _
  have hs4 : (w3.alloc O).heap.size = N + 1 := by rw [hN]; exact World.size_alloc _ _
  have hNw : w.heap.size ≤ N := by rw [hN]; exact hB3.size
  rw [← hN] at hr1
  go_wp2_with (fail)
  rw [← hO, ← hN]
  generalize w3.alloc O = w4 at hr4 k0 k1 k2 k3 k4 f1 f2 f3 f4 hB4 hs4 ⊢
  clear hr3 hB3 hN hf4 hO
  have hlv : live (0 : Int) = 1 := rfl
  rw [hlv] at hwl
  clear hlv
  refine (uint_any r l3 e3 w4 hr4 (by omega)).mono ?_
  rintro e w5 ⟨rfl, hr5, ho5⟩
  have hT5 : Turn (fun k => k = r) w4 w5 := Turn.only (S := fun k => k = r) ho5 rfl
  have hne : N ≠ r := by omega
  have hN4 : N < w4.heap.size := by omega
  replace k0 := hT5.cell k0 hne
  replace k1 := hT5.cell k1 hne
  replace k2 := hT5.cell k2 hne
  replace k3 := hT5.cell k3 hne
  replace k4 := hT5.cell k4 hne
  replace f1 := (hT5.frozen (p := ⟨N, 1, none⟩) hN4 hne).trans f1
  replace f2 := (hT5.frozen (p := ⟨N, 2, none⟩) hN4 hne).trans f2
  replace f3 := (hT5.frozen (p := ⟨N, 3, none⟩) hN4 hne).trans f3
  replace f4 := (hT5.frozen (p := ⟨N, 4, none⟩) hN4 hne).trans f4
  have hB5 : Below w.heap.size w w5 := hB4.trans (ho5.under hr0)
  have hs5 : w5.heap.size = N + 1 := ho5.size.trans hs4
  clear hr4 hB4 hs4 hT5 ho5 hN4
  have hul := uintF_left l3 e3
  have hur := uintF_range l3 e3
  unfold comU at HE
  generalize uintF l3 e3 = u at hr5 hul hur HE ⊢
  obtain ⟨n0, l5, e5⟩ := u
  simp only at hr5 hul hur HE ⊢
  go_wp2_with (fail)
  go_loopw [10] (fun n wr => ∃ (fuel : Nat) (lr : List UInt8) (er nr : Int) (ps : List Int) (vs : Value), n = .int .u64 nr ∧ Hid (parL fuel lr er nr ps = parL (l1.length + 2) l5 e5 n0 []) ∧ lr.length + live er < fuel ∧ ps.length + lr.length + live er ≤ l1.length + 1 ∧ 0 ≤ nr ∧ nr < 18446744073709551616 ∧
      Rd wr r (fun k => w.heap.size ≤ k ∧ k < N) lr er ∧ (wr.cell? ⟨N, 0, none⟩ = some (.int .u64 tr) ∧ wr.cell? ⟨N, 1, none⟩ = some vs ∧ wr.cell? ⟨N, 2, none⟩ = some (.string { data := #[] }) ∧ wr.cell? ⟨N, 3, none⟩ = some (.int .i64 0) ∧ wr.cell? ⟨N, 4, none⟩ = some (.string { data := #[] })) ∧
      (wr.frozen? ⟨N, 1, none⟩ = false ∧ wr.frozen? ⟨N, 2, none⟩ = false ∧ wr.frozen? ⟨N, 3, none⟩ = false ∧ wr.frozen? ⟨N, 4, none⟩ = false) ∧ wr.ownsRow (N + 1) 48 1 vs ps.length (ps.map (Value.int .u64)) ∧ Below w.heap.size w wr ∧ N + 1 ≤ wr.heap.size) (fun _ wr => rdLeft wr r)
  case atStart =>
    exact ⟨l1.length + 2, l5, e5, n0, [], _, rfl, rfl, by omega, by simp; omega, hur.1, hur.2, hr5, ⟨k0, k1, k2, k3, k4⟩, ⟨f1, f2, f3, f4⟩, World.ownsRow_nil _ _ _ _, hB5, by omega⟩
  case round =>
    clear k0 k1 k2 k3 k4 f1 f2 f3 f4 hB5 hr5 hs5
    obtain ⟨fuel, lr, er, nr, ps, vs, rfl, HL, hfu, hsum, hn0, hn1, hrd, ⟨k0, k1, k2, k3, k4⟩, ⟨f1, f2, f3, f4⟩, hown, hbl, hsz⟩ := hrel
    obtain ⟨fuel, rfl⟩ : ∃ f, fuel = f + 1 := ⟨fuel - 1, by omega⟩
    have hmeas := rdLeft_eq hrd
    by_cases hn : 0 < nr
    · go_wp2_with (fail)
      refine (err_any r _ _ wr hrd).mono ?_
      rintro e w5 ⟨rfl, rfl⟩
      by_cases he : er = 0
      · subst he
        have HN : Hid (parL fuel (wordF lr 0).2.1 (wordF lr 0).2.2 (nr - 1) (ps ++ [(wordF lr 0).1]) = parL (l1.length + 2) l5 e5 n0 []) := by rw [← HL.out, parL, if_pos ⟨hn, rfl⟩]; rfl
        have hwd := wordF_dec lr 0 rfl
        have HV : Hid (∀ k, vs.ownBlock = some k → N + 1 ≤ k) := fun k hk => (hown.lt k hk).1
        clear HL
        go_wp2_with (fail)
        have hTd : Turn (fun _ => False) w5 w5.drew := (Turn.refl _ _).drew
        have hrdd := hTd.rd hrd id (fun _ _ _ => id)
        have hownd := hTd.owns hown (fun _ _ => id)
        have hbld : Below w.heap.size w w5.drew := hbl.drew
        have kk : ∀ k v, w5.cell? ⟨N, k, none⟩ = some v → w5.drew.cell? ⟨N, k, none⟩ = some v := fun k v h => h
        have ff : ∀ k, w5.frozen? ⟨N, k, none⟩ = false → w5.drew.frozen? ⟨N, k, none⟩ = false := fun k h => h
        replace k0 := kk _ _ k0
        replace k1 := kk _ _ k1
        replace k2 := kk _ _ k2
        replace k3 := kk _ _ k3
        replace k4 := kk _ _ k4
        replace f1 := ff _ f1
        replace f2 := ff _ f2
        replace f3 := ff _ f3
        replace f4 := ff _ f4
        have hszd : N + 1 ≤ w5.drew.heap.size := hsz
        clear hTd kk ff hrd hown hbl hsz
        have hw := word_any r lr 0 w5.drew hrdd
        have hlv : live (0 : Int) = 1 := rfl
        rw [hlv] at hfu hsum hwd hmeas
        clear hlv
        generalize wordF lr 0 = ww at hw hwd HN
        obtain ⟨id9, l9, e9⟩ := ww
        simp only at hw hwd HN
        go_region_law (first
          | (refine step_append_lies _ rfl (.tmp 74) (.tmp 77) 67 rfl (N + 1) 48 i0 (.int .u64 0) 1 8 t67 hi hz0 hz1 hz2 rfl (by decide) vs ps.length (ps.map (Value.int .u64)) (by simp [Act.eval]) (KO.out _) ⟨w9.heap.size, 0, none⟩ 1 1 [.int .u64 id9] (by simp [Act.eval]) rfl (World.news_of_block (World.alloc_last w9 _)) (by intro u hu; simp at hu; rcases hu with rfl; rfl) (by decide) (by unfold maxLen; omega) (by omega) (KZ.out _) _ rfl ?_
             intro g cap w10 hown10 hgrow10 hat10 hlt10
             have HD := Hid.mk' (par_done hNw HV.out hr1 KB.out KR.out KS.out m1 g1 hr0 m0 m2 m3 m4 g2 g3 g4 hown10 _ hgrow10)
             have htc10 := HD.out.1.1
             have htf10 := HD.out.1.2)
          | (go_simp; go_at_call 48; refine hw.mono ?_
             rintro e w9 ⟨rfl, hr9, ho9⟩
             have hT9 : Turn (fun k => k = r) w5.drew w9 := Turn.only (S := fun k => k = r) ho9 rfl
             have hN4 : N < w5.drew.heap.size := hszd
             have m0 := hT9.cell k0 hne
             have m1 := hT9.cell k1 hne
             have m2 := hT9.cell k2 hne
             have m3 := hT9.cell k3 hne
             have m4 := hT9.cell k4 hne
             have g1 := (hT9.frozen (p := ⟨N, 1, none⟩) hN4 hne).trans f1
             have g2 := (hT9.frozen (p := ⟨N, 2, none⟩) hN4 hne).trans f2
             have g3 := (hT9.frozen (p := ⟨N, 3, none⟩) hN4 hne).trans f3
             have g4 := (hT9.frozen (p := ⟨N, 4, none⟩) hN4 hne).trans f4
             have KR := Hid.mk' hr9
             have KB := Hid.mk' (hbld.trans (ho9.under hr0))
             have KS : Hid (N + 1 ≤ w9.heap.size) := by rw [ho9.size]; exact hszd
             have KZ : Hid (∀ o, N + 1 ≤ (w9.alloc o).heap.size) := fun o => by have := KS.out; rw [World.size_alloc]; omega
             have KO : Hid (∀ o, (w9.alloc o).ownsRow (N + 1) 48 1 vs ps.length (ps.map (Value.int .u64))) := fun o => (hT9.owns hownd (fun k hk e => by have := HV.out k hk; omega)).alloc o
             have m1a : ∀ o, (w9.alloc o).cell? ⟨N, 1, none⟩ = some vs := fun o => Lib.cell?_alloc_some _ m1
             clear hT9 hN4 ho9 hr9))
        all_goals
          go_wp2_with (fail)
          obtain ⟨_, q1, q2, q3, q4, q5, q6⟩ := HD.out
          refine ⟨⟨fuel, l9, e9, nr - 1, ps ++ [id9], _, rfl, HN, by omega, by simp; omega, by omega, by omega, q1, q2, q3, q4, q5, q6⟩, ?_⟩
          rw [rdLeft_eq q1, hmeas]
          exact hwd
      · have he' : (er == 0) = false := by simpa using he
        have HN : Hid (parL (l1.length + 2) l5 e5 n0 [] = (ps, lr, er)) := by rw [← HL.out, parL, if_neg (by omega)]; rfl
        rw [HN.out] at HE
        have hpl : ps.length ≤ 1000000000 := by omega
        have hll : lr.length + live er ≤ 1000000000 := by omega
        have HP := Hid.mk' hown
        have HV : Hid (∀ k, vs.ownBlock = some k → N + 1 ≤ k) := fun k hk => (hown.lt k hk).1
        clear HN HL hmeas hsum hfu hown
        unfold comA at HE
        go_wp2_with (fail)
        have hmo := textF_mono lr 64 er
        refine (text_any r 64 lr er _ hrd (by omega) (by omega)).mono ?_
        rintro e w6 ⟨rfl, hr6, ho6⟩
        try simp only at HE
        generalize textF lr 64 er = tt at hr6 hmo HE ⊢
        obtain ⟨s6, l6, e6⟩ := tt
        simp only at hr6 hmo HE ⊢
        generalize textOf s6 = au at HE ⊢
        have hT6 : Turn (fun k => k = r ∨ k = N) w5 (w6.setCell ⟨N, 2, none⟩ (.string au)) := (Turn.only (S := fun k => k = r ∨ k = N) ho6 (.inl rfl)).setCell (p := ⟨N, 2, none⟩) (.inr rfl) _
        have c0 : (w6.setCell ⟨N, 2, none⟩ (.string au)).cell? ⟨N, 0, none⟩ = some (.int .u64 tr) := (World.cell?_setCell_other _ _ _ _ (by simp)).trans ((ho6.cell hne).trans k0)
        have c1 : (w6.setCell ⟨N, 2, none⟩ (.string au)).cell? ⟨N, 1, none⟩ = some vs := (World.cell?_setCell_other _ _ _ _ (by simp)).trans ((ho6.cell hne).trans k1)
        have c2 : (w6.setCell ⟨N, 2, none⟩ (.string au)).cell? ⟨N, 2, none⟩ = some (.string au) := World.cell?_setCell_same _ _ _ ((ho6.cell hne).trans k2)
        have c3 : (w6.setCell ⟨N, 2, none⟩ (.string au)).cell? ⟨N, 3, none⟩ = some (.int .i64 0) := (World.cell?_setCell_other _ _ _ _ (by simp)).trans ((ho6.cell hne).trans k3)
        have c4 : (w6.setCell ⟨N, 2, none⟩ (.string au)).cell? ⟨N, 4, none⟩ = some (.string { data := #[] }) := (World.cell?_setCell_other _ _ _ _ (by simp)).trans ((ho6.cell hne).trans k4)
        have d3 : (w6.setCell ⟨N, 2, none⟩ (.string au)).frozen? ⟨N, 3, none⟩ = false := (World.frozen?_setCell _ _ _ _).trans ((ho6.frozen _).trans f3)
        have d4 : (w6.setCell ⟨N, 2, none⟩ (.string au)).frozen? ⟨N, 4, none⟩ = false := (World.frozen?_setCell _ _ _ _).trans ((ho6.frozen _).trans f4)
        have hr7 : Rd (w6.setCell ⟨N, 2, none⟩ (.string au)) r (fun k => w.heap.size ≤ k ∧ k < N) l6 e6 := ((Turn.refl (fun k => k = N) w6).setCell (p := ⟨N, 2, none⟩) rfl _).rd hr6 (by omega) (fun k hk _ e => by have := hk.2; omega)
        have own7 : (w6.setCell ⟨N, 2, none⟩ (.string au)).ownsRow (N + 1) 48 1 vs ps.length (ps.map (Value.int .u64)) := hT6.owns HP.out (fun k hk e => by have := HV.out k hk; omega)
        have hB7 : Below w.heap.size w (w6.setCell ⟨N, 2, none⟩ (.string au)) := hbl.trans (hT6.toBelow hbl.size (fun k _ e => by omega))
        have m2 := (ho6.cell hne).trans k2
        have m2f := (ho6.frozen ⟨N, 2, none⟩).trans f2
        clear k0 k1 k2 k3 k4 f1 f2 f3 f4 hrd HP hbl ho6 hT6 hr6
        go_wp2_with (fail)
        generalize w6.setCell ⟨N, 2, none⟩ (.string au) = w7 at c0 c1 c2 c3 c4 d3 d4 hr7 own7 hB7 ⊢
        clear m2 m2f
        unfold comB at HE
        have hmo2 := wordF_left l6 e6
        refine (word_any r l6 e6 _ hr7).mono ?_
        rintro e w8 ⟨rfl, hr8, ho8⟩
        generalize wordF l6 e6 = ww at hr8 hmo2 HE ⊢
        obtain ⟨da, l8, e8⟩ := ww
        simp only at hr8 hmo2 HE ⊢
        obtain ⟨dd, hdd⟩ : ∃ dd, dd = wrap64 da := ⟨_, rfl⟩
        have hT8 : Turn (fun k => k = r ∨ k = N) w7 (w8.setCell ⟨N, 3, none⟩ (.int .i64 dd)) := (Turn.only (S := fun k => k = r ∨ k = N) ho8 (.inl rfl)).setCell (p := ⟨N, 3, none⟩) (.inr rfl) _
        have k0 : (w8.setCell ⟨N, 3, none⟩ (.int .i64 dd)).cell? ⟨N, 0, none⟩ = some (.int .u64 tr) := (World.cell?_setCell_other _ _ _ _ (by simp)).trans ((ho8.cell hne).trans c0)
        have k1 : (w8.setCell ⟨N, 3, none⟩ (.int .i64 dd)).cell? ⟨N, 1, none⟩ = some vs := (World.cell?_setCell_other _ _ _ _ (by simp)).trans ((ho8.cell hne).trans c1)
        have k2 : (w8.setCell ⟨N, 3, none⟩ (.int .i64 dd)).cell? ⟨N, 2, none⟩ = some (.string au) := (World.cell?_setCell_other _ _ _ _ (by simp)).trans ((ho8.cell hne).trans c2)
        have k3 : (w8.setCell ⟨N, 3, none⟩ (.int .i64 dd)).cell? ⟨N, 3, none⟩ = some (.int .i64 dd) := World.cell?_setCell_same _ _ _ ((ho8.cell hne).trans c3)
        have k4 : (w8.setCell ⟨N, 3, none⟩ (.int .i64 dd)).cell? ⟨N, 4, none⟩ = some (.string { data := #[] }) := (World.cell?_setCell_other _ _ _ _ (by simp)).trans ((ho8.cell hne).trans c4)
        have f4 : (w8.setCell ⟨N, 3, none⟩ (.int .i64 dd)).frozen? ⟨N, 4, none⟩ = false := (World.frozen?_setCell _ _ _ _).trans ((ho8.frozen _).trans d4)
        have hr9 : Rd (w8.setCell ⟨N, 3, none⟩ (.int .i64 dd)) r (fun k => w.heap.size ≤ k ∧ k < N) l8 e8 := ((Turn.refl (fun k => k = N) w8).setCell (p := ⟨N, 3, none⟩) rfl _).rd hr8 (by omega) (fun k hk _ e => by have := hk.2; omega)
        have own9 : (w8.setCell ⟨N, 3, none⟩ (.int .i64 dd)).ownsRow (N + 1) 48 1 vs ps.length (ps.map (Value.int .u64)) := hT8.owns own7 (fun k hk e => by have := HV.out k hk; omega)
        have hB9 : Below w.heap.size w (w8.setCell ⟨N, 3, none⟩ (.int .i64 dd)) := hB7.trans (hT8.toBelow hB7.size (fun k _ e => by omega))
        have m3 := (ho8.cell hne).trans c3
        have m3f := (ho8.frozen ⟨N, 3, none⟩).trans d3
        clear c0 c1 c2 c3 c4 d3 d4 hr7 own7 hB7 ho8 hT8 hr8
        go_wp2_with (fail)
        rw [← hdd]
        generalize w8.setCell ⟨N, 3, none⟩ (.int .i64 dd) = w9 at k0 k1 k2 k3 k4 f4 hr9 own9 hB9 ⊢
        clear m3 m3f hdd
        unfold comC at HE
        refine (text_any r 1024 l8 e8 _ hr9 (by omega) (by omega)).mono ?_
        rintro e w10 ⟨rfl, hr10, ho10⟩
        generalize textF l8 1024 e8 = tt at hr10 HE ⊢
        obtain ⟨s10, l10, e10⟩ := tt
        simp only at hr10 HE ⊢
        generalize textOf s10 = tx at HE ⊢
        have hT10 : Turn (fun k => k = r ∨ k = N) w9 (w10.setCell ⟨N, 4, none⟩ (.string tx)) := (Turn.only (S := fun k => k = r ∨ k = N) ho10 (.inl rfl)).setCell (p := ⟨N, 4, none⟩) (.inr rfl) _
        have c0 : (w10.setCell ⟨N, 4, none⟩ (.string tx)).cell? ⟨N, 0, none⟩ = some (.int .u64 tr) := (World.cell?_setCell_other _ _ _ _ (by simp)).trans ((ho10.cell hne).trans k0)
        have c1 : (w10.setCell ⟨N, 4, none⟩ (.string tx)).cell? ⟨N, 1, none⟩ = some vs := (World.cell?_setCell_other _ _ _ _ (by simp)).trans ((ho10.cell hne).trans k1)
        have c2 : (w10.setCell ⟨N, 4, none⟩ (.string tx)).cell? ⟨N, 2, none⟩ = some (.string au) := (World.cell?_setCell_other _ _ _ _ (by simp)).trans ((ho10.cell hne).trans k2)
        have c3 : (w10.setCell ⟨N, 4, none⟩ (.string tx)).cell? ⟨N, 3, none⟩ = some (.int .i64 dd) := (World.cell?_setCell_other _ _ _ _ (by simp)).trans ((ho10.cell hne).trans k3)
        have c4 : (w10.setCell ⟨N, 4, none⟩ (.string tx)).cell? ⟨N, 4, none⟩ = some (.string tx) := World.cell?_setCell_same _ _ _ ((ho10.cell hne).trans k4)
        have hr11 : Rd (w10.setCell ⟨N, 4, none⟩ (.string tx)) r (fun k => w.heap.size ≤ k ∧ k < N) l10 e10 := ((Turn.refl (fun k => k = N) w10).setCell (p := ⟨N, 4, none⟩) rfl _).rd hr10 (by omega) (fun k hk _ e => by have := hk.2; omega)
        have own11 : (w10.setCell ⟨N, 4, none⟩ (.string tx)).ownsRow (N + 1) 48 1 vs ps.length (ps.map (Value.int .u64)) := hT10.owns own9 (fun k hk e => by have := HV.out k hk; omega)
        have hB11 : Below w.heap.size w (w10.setCell ⟨N, 4, none⟩ (.string tx)) := hB9.trans (hT10.toBelow hB9.size (fun k _ e => by omega))
        have m4 := (ho10.cell hne).trans k4
        have m4f := (ho10.frozen ⟨N, 4, none⟩).trans f4
        clear k0 k1 k2 k3 k4 f4 hr9 own9 hB9 ho10 hT10 hr10
        go_wp2_with (fail)
        generalize w10.setCell ⟨N, 4, none⟩ (.string tx) = w11 at c0 c1 c2 c3 c4 hr11 own11 hB11 ⊢
        clear m4 m4f
        refine (end_any r l10 e10 _ hr11).mono ?_
        rintro e w12 ⟨rfl, rfl⟩
        by_cases hz : endF l10 e10 = 0
        · rw [hz]
          rw [hz] at HE
          go_wp2_with (fail)
          refine (check_commit tr ps vs au tx dd _ (nums_of_own own11) hpl).mono ?_
          rintro e w13 ⟨rfl, hB13⟩
          have hB14 := hB11.trans (hB13.mono hB11.size)
          by_cases hq : commitF tr ps au tx = 0
          · rw [hq]
            rw [hq] at HE
            go_wp2_with (fail)
            go_ret2
            exact ⟨⟨_, by rw [HE.out]; rfl⟩, hB14⟩
          · have hq' : (commitF tr ps au tx == 0) = false := by simpa using hq
            go_wp2_with (fail)
            go_ret2
            exact ⟨⟨_, by rw [HE.out, hq']; rfl⟩, hB14⟩
        · have hz' : (endF l10 e10 == 0) = false := by simpa using hz
          go_wp2_with (fail)
          go_ret2
          exact ⟨⟨_, by rw [HE.out, hz']; rfl⟩, hB11⟩
    · have hn' : ¬ (0 : Int) < nr := hn
      obtain ⟨w5, hw5⟩ : ∃ w5, w5 = wr := ⟨_, rfl⟩
      subst hw5
      have HN : Hid (parL (l1.length + 2) l5 e5 n0 [] = (ps, lr, er)) := by rw [← HL.out, parL, if_neg (by omega)]; rfl
      rw [HN.out] at HE
      have hpl : ps.length ≤ 1000000000 := by omega
      have hll : lr.length + live er ≤ 1000000000 := by omega
      have HP := Hid.mk' hown
      have HV : Hid (∀ k, vs.ownBlock = some k → N + 1 ≤ k) := fun k hk => (hown.lt k hk).1
      clear HN HL hmeas hsum hfu hown
      unfold comA at HE
      go_wp2_with (fail)
      have hmo := textF_mono lr 64 er
      refine (text_any r 64 lr er _ hrd (by omega) (by omega)).mono ?_
      rintro e w6 ⟨rfl, hr6, ho6⟩
      try simp only at HE
      generalize textF lr 64 er = tt at hr6 hmo HE ⊢
      obtain ⟨s6, l6, e6⟩ := tt
      simp only at hr6 hmo HE ⊢
      generalize textOf s6 = au at HE ⊢
      have hT6 : Turn (fun k => k = r ∨ k = N) w5 (w6.setCell ⟨N, 2, none⟩ (.string au)) := (Turn.only (S := fun k => k = r ∨ k = N) ho6 (.inl rfl)).setCell (p := ⟨N, 2, none⟩) (.inr rfl) _
      have c0 : (w6.setCell ⟨N, 2, none⟩ (.string au)).cell? ⟨N, 0, none⟩ = some (.int .u64 tr) := (World.cell?_setCell_other _ _ _ _ (by simp)).trans ((ho6.cell hne).trans k0)
      have c1 : (w6.setCell ⟨N, 2, none⟩ (.string au)).cell? ⟨N, 1, none⟩ = some vs := (World.cell?_setCell_other _ _ _ _ (by simp)).trans ((ho6.cell hne).trans k1)
      have c2 : (w6.setCell ⟨N, 2, none⟩ (.string au)).cell? ⟨N, 2, none⟩ = some (.string au) := World.cell?_setCell_same _ _ _ ((ho6.cell hne).trans k2)
      have c3 : (w6.setCell ⟨N, 2, none⟩ (.string au)).cell? ⟨N, 3, none⟩ = some (.int .i64 0) := (World.cell?_setCell_other _ _ _ _ (by simp)).trans ((ho6.cell hne).trans k3)
      have c4 : (w6.setCell ⟨N, 2, none⟩ (.string au)).cell? ⟨N, 4, none⟩ = some (.string { data := #[] }) := (World.cell?_setCell_other _ _ _ _ (by simp)).trans ((ho6.cell hne).trans k4)
      have d3 : (w6.setCell ⟨N, 2, none⟩ (.string au)).frozen? ⟨N, 3, none⟩ = false := (World.frozen?_setCell _ _ _ _).trans ((ho6.frozen _).trans f3)
      have d4 : (w6.setCell ⟨N, 2, none⟩ (.string au)).frozen? ⟨N, 4, none⟩ = false := (World.frozen?_setCell _ _ _ _).trans ((ho6.frozen _).trans f4)
      have hr7 : Rd (w6.setCell ⟨N, 2, none⟩ (.string au)) r (fun k => w.heap.size ≤ k ∧ k < N) l6 e6 := ((Turn.refl (fun k => k = N) w6).setCell (p := ⟨N, 2, none⟩) rfl _).rd hr6 (by omega) (fun k hk _ e => by have := hk.2; omega)
      have own7 : (w6.setCell ⟨N, 2, none⟩ (.string au)).ownsRow (N + 1) 48 1 vs ps.length (ps.map (Value.int .u64)) := hT6.owns HP.out (fun k hk e => by have := HV.out k hk; omega)
      have hB7 : Below w.heap.size w (w6.setCell ⟨N, 2, none⟩ (.string au)) := hbl.trans (hT6.toBelow hbl.size (fun k _ e => by omega))
      have m2 := (ho6.cell hne).trans k2
      have m2f := (ho6.frozen ⟨N, 2, none⟩).trans f2
      clear k0 k1 k2 k3 k4 f1 f2 f3 f4 hrd HP hbl ho6 hT6 hr6
      go_wp2_with (fail)
      generalize w6.setCell ⟨N, 2, none⟩ (.string au) = w7 at c0 c1 c2 c3 c4 d3 d4 hr7 own7 hB7 ⊢
      clear m2 m2f
      unfold comB at HE
      have hmo2 := wordF_left l6 e6
      refine (word_any r l6 e6 _ hr7).mono ?_
      rintro e w8 ⟨rfl, hr8, ho8⟩
      generalize wordF l6 e6 = ww at hr8 hmo2 HE ⊢
      obtain ⟨da, l8, e8⟩ := ww
      simp only at hr8 hmo2 HE ⊢
      obtain ⟨dd, hdd⟩ : ∃ dd, dd = wrap64 da := ⟨_, rfl⟩
      have hT8 : Turn (fun k => k = r ∨ k = N) w7 (w8.setCell ⟨N, 3, none⟩ (.int .i64 dd)) := (Turn.only (S := fun k => k = r ∨ k = N) ho8 (.inl rfl)).setCell (p := ⟨N, 3, none⟩) (.inr rfl) _
      have k0 : (w8.setCell ⟨N, 3, none⟩ (.int .i64 dd)).cell? ⟨N, 0, none⟩ = some (.int .u64 tr) := (World.cell?_setCell_other _ _ _ _ (by simp)).trans ((ho8.cell hne).trans c0)
      have k1 : (w8.setCell ⟨N, 3, none⟩ (.int .i64 dd)).cell? ⟨N, 1, none⟩ = some vs := (World.cell?_setCell_other _ _ _ _ (by simp)).trans ((ho8.cell hne).trans c1)
      have k2 : (w8.setCell ⟨N, 3, none⟩ (.int .i64 dd)).cell? ⟨N, 2, none⟩ = some (.string au) := (World.cell?_setCell_other _ _ _ _ (by simp)).trans ((ho8.cell hne).trans c2)
      have k3 : (w8.setCell ⟨N, 3, none⟩ (.int .i64 dd)).cell? ⟨N, 3, none⟩ = some (.int .i64 dd) := World.cell?_setCell_same _ _ _ ((ho8.cell hne).trans c3)
      have k4 : (w8.setCell ⟨N, 3, none⟩ (.int .i64 dd)).cell? ⟨N, 4, none⟩ = some (.string { data := #[] }) := (World.cell?_setCell_other _ _ _ _ (by simp)).trans ((ho8.cell hne).trans c4)
      have f4 : (w8.setCell ⟨N, 3, none⟩ (.int .i64 dd)).frozen? ⟨N, 4, none⟩ = false := (World.frozen?_setCell _ _ _ _).trans ((ho8.frozen _).trans d4)
      have hr9 : Rd (w8.setCell ⟨N, 3, none⟩ (.int .i64 dd)) r (fun k => w.heap.size ≤ k ∧ k < N) l8 e8 := ((Turn.refl (fun k => k = N) w8).setCell (p := ⟨N, 3, none⟩) rfl _).rd hr8 (by omega) (fun k hk _ e => by have := hk.2; omega)
      have own9 : (w8.setCell ⟨N, 3, none⟩ (.int .i64 dd)).ownsRow (N + 1) 48 1 vs ps.length (ps.map (Value.int .u64)) := hT8.owns own7 (fun k hk e => by have := HV.out k hk; omega)
      have hB9 : Below w.heap.size w (w8.setCell ⟨N, 3, none⟩ (.int .i64 dd)) := hB7.trans (hT8.toBelow hB7.size (fun k _ e => by omega))
      have m3 := (ho8.cell hne).trans c3
      have m3f := (ho8.frozen ⟨N, 3, none⟩).trans d3
      clear c0 c1 c2 c3 c4 d3 d4 hr7 own7 hB7 ho8 hT8 hr8
      go_wp2_with (fail)
      rw [← hdd]
      generalize w8.setCell ⟨N, 3, none⟩ (.int .i64 dd) = w9 at k0 k1 k2 k3 k4 f4 hr9 own9 hB9 ⊢
      clear m3 m3f hdd
      unfold comC at HE
      refine (text_any r 1024 l8 e8 _ hr9 (by omega) (by omega)).mono ?_
      rintro e w10 ⟨rfl, hr10, ho10⟩
      generalize textF l8 1024 e8 = tt at hr10 HE ⊢
      obtain ⟨s10, l10, e10⟩ := tt
      simp only at hr10 HE ⊢
      generalize textOf s10 = tx at HE ⊢
      have hT10 : Turn (fun k => k = r ∨ k = N) w9 (w10.setCell ⟨N, 4, none⟩ (.string tx)) := (Turn.only (S := fun k => k = r ∨ k = N) ho10 (.inl rfl)).setCell (p := ⟨N, 4, none⟩) (.inr rfl) _
      have c0 : (w10.setCell ⟨N, 4, none⟩ (.string tx)).cell? ⟨N, 0, none⟩ = some (.int .u64 tr) := (World.cell?_setCell_other _ _ _ _ (by simp)).trans ((ho10.cell hne).trans k0)
      have c1 : (w10.setCell ⟨N, 4, none⟩ (.string tx)).cell? ⟨N, 1, none⟩ = some vs := (World.cell?_setCell_other _ _ _ _ (by simp)).trans ((ho10.cell hne).trans k1)
      have c2 : (w10.setCell ⟨N, 4, none⟩ (.string tx)).cell? ⟨N, 2, none⟩ = some (.string au) := (World.cell?_setCell_other _ _ _ _ (by simp)).trans ((ho10.cell hne).trans k2)
      have c3 : (w10.setCell ⟨N, 4, none⟩ (.string tx)).cell? ⟨N, 3, none⟩ = some (.int .i64 dd) := (World.cell?_setCell_other _ _ _ _ (by simp)).trans ((ho10.cell hne).trans k3)
      have c4 : (w10.setCell ⟨N, 4, none⟩ (.string tx)).cell? ⟨N, 4, none⟩ = some (.string tx) := World.cell?_setCell_same _ _ _ ((ho10.cell hne).trans k4)
      have hr11 : Rd (w10.setCell ⟨N, 4, none⟩ (.string tx)) r (fun k => w.heap.size ≤ k ∧ k < N) l10 e10 := ((Turn.refl (fun k => k = N) w10).setCell (p := ⟨N, 4, none⟩) rfl _).rd hr10 (by omega) (fun k hk _ e => by have := hk.2; omega)
      have own11 : (w10.setCell ⟨N, 4, none⟩ (.string tx)).ownsRow (N + 1) 48 1 vs ps.length (ps.map (Value.int .u64)) := hT10.owns own9 (fun k hk e => by have := HV.out k hk; omega)
      have hB11 : Below w.heap.size w (w10.setCell ⟨N, 4, none⟩ (.string tx)) := hB9.trans (hT10.toBelow hB9.size (fun k _ e => by omega))
      have m4 := (ho10.cell hne).trans k4
      have m4f := (ho10.frozen ⟨N, 4, none⟩).trans f4
      clear k0 k1 k2 k3 k4 f4 hr9 own9 hB9 ho10 hT10 hr10
      go_wp2_with (fail)
      generalize w10.setCell ⟨N, 4, none⟩ (.string tx) = w11 at c0 c1 c2 c3 c4 hr11 own11 hB11 ⊢
      clear m4 m4f
      refine (end_any r l10 e10 _ hr11).mono ?_
      rintro e w12 ⟨rfl, rfl⟩
      by_cases hz : endF l10 e10 = 0
      · rw [hz]
        rw [hz] at HE
        go_wp2_with (fail)
        refine (check_commit tr ps vs au tx dd _ (nums_of_own own11) hpl).mono ?_
        rintro e w13 ⟨rfl, hB13⟩
        have hB14 := hB11.trans (hB13.mono hB11.size)
        by_cases hq : commitF tr ps au tx = 0
        · rw [hq]
          rw [hq] at HE
          go_wp2_with (fail)
          go_ret2
          exact ⟨⟨_, by rw [HE.out]; rfl⟩, hB14⟩
        · have hq' : (commitF tr ps au tx == 0) = false := by simpa using hq
          go_wp2_with (fail)
          go_ret2
          exact ⟨⟨_, by rw [HE.out, hq']; rfl⟩, hB14⟩
      · have hz' : (endF l10 e10 == 0) = false := by simpa using hz
        go_wp2_with (fail)
        go_ret2
        exact ⟨⟨_, by rw [HE.out, hz']; rfl⟩, hB11⟩
end Go.Proofs

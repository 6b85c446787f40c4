/- A part of the proof of CarveSides: the runs of the document's example and of the law's body, and facts of the row. Conditions: none. -/
import Derived.Test.YtficpbnmmchpeaaGreatDoorWalkA
import Derived.Lib.Split
import Derived.WalkMore
namespace Go.Proofs
open Go.RowKit Go.Lib

theorem row_cell' (w : World) (cs : Array Value) (t : TypeId) (k : Nat) (v : Value) (h : cs[k]? = some v) : (w.alloc (.cells cs t)).cell? ⟨w.heap.size, k, none⟩ = some v := by
  unfold World.cell?
  rw [World.alloc_last]
  exact h

/-- The pieces between strokes. -/
def pieces (s : ByteArray) : List ByteArray := Lib.splitB ⟨#[47]⟩ 0 (Lib.countB s ⟨#[47]⟩) s
def namesOf (s : ByteArray) : List ByteArray := if s.toList = [] then [] else pieces s
def pathFrom : List ByteArray → Nat → Nat → Nat × Nat
  | [], _, _ => (0, 0)
  | n :: l, i, at' => if i = 16 then (3, at') else if (spotD n).1 ≠ 0 then ((spotD n).1, at' + (spotD n).2) else pathFrom l (i + 1) (at' + (n.size + 1))
/-- What is wrong with a path: the error, and where. -/
def pathD (s : ByteArray) : Nat × Nat := if 200 < s.size then (3, 200) else pathFrom (namesOf s) 0 0

/-- What is asked of strings.Split. -/
def SplitOk : Prop := ∀ (s : ByteArray) (W : World), s.size ≤ 200 → Calls Tryz.prog 104 #[.string s, .string ⟨#[47]⟩] W fun e w' =>
  e = .returned (.slice (some ⟨W.heap.size, 0, none⟩) (pieces s).length (pieces s).length) ∧ w' = W.alloc (.cells ((pieces s).map Value.string).toArray 9)

set_option maxRecDepth 1000000 in
set_option maxHeartbeats 2000000 in
theorem parts_any (hS : SplitOk) (s : ByteArray) (w : World) (hs : s.size ≤ 200) : Calls Tryz.prog 57 #[.string s] w fun e w' =>
    (s.toList = [] ∧ e = .returned (.slice none 0 0) ∧ w' = w) ∨ (s.toList ≠ [] ∧ e = .returned (.slice (some ⟨w.heap.size, 0, none⟩) (pieces s).length (pieces s).length) ∧ w' = w.alloc (.cells ((pieces s).map Value.string).toArray 9)) := by
  by_cases h : s.toList = []
  · have h' : s.toList.isEmpty = true := by rw [h]; rfl
    go_enter Tryz.func57, Tryz.ntmps57
    go_wp2_with (fail)
    go_ret
    exact .inl ⟨h, rfl, rfl⟩
  · have h' : s.toList.isEmpty = false := by cases hl : s.toList with | nil => exact absurd hl h | cons _ _ => rfl
    have H := Hid.mk' h
    clear h
    go_enter Tryz.func57, Tryz.ntmps57
    go_wp2_with (fail)
    refine (hS s w hs).mono ?_
    rintro e w' ⟨rfl, hw⟩
    subst hw
    go_wp2_with (fail)
    go_ret
    exact .inr ⟨H.out, rfl, rfl⟩

theorem first_le (s : ByteArray) : ∀ (f pos i : Nat), firstBad s f pos = some i → i < s.size := by
  intro f
  induction f with
  | zero => intro pos i h; cases h
  | succ f ih =>
    intro pos i h
    rw [firstBad] at h
    split at h
    · split at h
      · cases h; assumption
      · exact ih _ _ h
    · cases h
theorem spot_le (s : ByteArray) : (spotD s).2 ≤ s.size + 32 := by
  unfold spotD
  split
  · simp
  · split
    · simp
    · split
      · rename_i i h
        have := first_le s _ _ _ h
        show i ≤ _
        omega
      · simp
theorem spot_ok (s : ByteArray) (h : (spotD s).1 = 0) : s.size ≤ 32 := by
  unfold spotD at h
  split at h
  · simp at h
  · split at h
    · simp at h
    · omega

end Go.Proofs

namespace Go.Proofs
open Go.RowKit Go.Lib

set_option maxRecDepth 1000000 in
set_option maxHeartbeats 2000000 in
theorem namepath_any (hS : SplitOk) (hP : ∀ s n, n ∈ pieces s → n.size ≤ s.size) (s : ByteArray) (w : World) :
    Calls Tryz.prog 28 #[.string s] w fun e w' => e = .returned (.agg #[.int .i64 (pathD s).1, .int .i64 (pathD s).2]) ∧ Below w.heap.size w w' := by
  by_cases h2 : 200 < s.size
  · have e := show pathD s = (3, 200) from if_pos h2
    have h2' : (200 : Int) < (s.size : Int) := by omega
    have E := Hid.mk' e
    clear e
    go_enter Tryz.func28, Tryz.ntmps28
    go_wp2_with (fail)
    go_step3
    go_wp2_with (fail)
    (try simp only [Exit.noGoto_ret])
    refine bodyPost_ret (spot_results rfl (.int .i64 3) (.int .i64 200) rfl (World.alloc_last _ _)) rfl ⟨?_, (Below.refl _ _).alloc (Nat.le_refl _) _⟩
    rw [E.out]; rfl
  · have hsz : s.size ≤ 8796093022207 := by omega
    have h2' : ¬ ((200 : Int) < (s.size : Int)) := by omega
    have E := Hid.mk' (show pathD s = pathFrom (namesOf s) 0 0 from if_neg h2)
    go_enter Tryz.func28, Tryz.ntmps28
    go_wp2_with (fail)
    go_step3
    go_wp2_with (fail)
    go_step3
    go_wp2_with (fail)
    refine (parts_any hS s _ (by omega)).mono ?_
    rintro e W1 (⟨h0, rfl, hW⟩ | ⟨h0, rfl, hW⟩)
    · subst hW
      have E2 := Hid.mk' (show pathD s = (0, 0) from by rw [E.out]; unfold namesOf; rw [if_pos h0]; rfl)
      clear E h0
      go_wp2_with (fail)
      refine wp_loop_once ?_
      go_wp2_with (fail)
      (try simp only [Exit.noGoto_ret])
      refine bodyPost_ret (spot_results rfl (.int .i64 0) (.int .i64 0) rfl (World.alloc_last _ _)) rfl ⟨?_, (Below.refl _ _).alloc (Nat.le_refl _) _⟩
      rw [E2.out]; rfl
    · have E2 := Hid.mk' (show pathD s = pathFrom (pieces s) 0 0 from by rw [E.out]; unfold namesOf; rw [if_neg h0])
      have sz : ∀ (v : World) (o : Obj), (v.alloc o).heap.size = v.heap.size + 1 := fun v o => Array.size_push _
      rw [sz]
      have hP2 := Hid.mk' (hP s)
      clear hP
      generalize hp : pieces s = ps at hW E2 hP2 ⊢
      have hB : Below w.heap.size w W1 := by rw [hW]; exact ((Below.refl _ _).alloc (Nat.le_refl _) _).alloc (by rw [sz]; omega) _
      have hZ : w.heap.size + 1 < W1.heap.size := by rw [hW, sz, sz]; omega
      have hc0 : W1.cell? ⟨w.heap.size, 0, none⟩ = some (.int .i64 0) := by
        rw [hW, World.cell?_alloc_old _ _ _ (by rw [sz]; simp)]; exact row_cell' _ _ _ 0 _ rfl
      have hc1 : W1.cell? ⟨w.heap.size, 1, none⟩ = some (.int .i64 0) := by
        rw [hW, World.cell?_alloc_old _ _ _ (by rw [sz]; simp)]; exact row_cell' _ _ _ 1 _ rfl
      have hf0 : ∀ k, W1.frozen? ⟨w.heap.size, k, none⟩ = false := fun k => by
        rw [hW, World.frozen?_alloc_old _ _ _ (by rw [sz]; simp)]
        have hb := World.alloc_last w (Obj.cells #[Value.int IntKind.i64 0, Value.int IntKind.i64 0] 96)
        unfold World.frozen?
        rw [hb]
        simp
      have hrow : ∀ j n, ps[j]? = some n → W1.cell? ⟨w.heap.size + 1, j, none⟩ = some (.string n) := fun j n hj => by
        rw [hW, ← sz w (Obj.cells #[Value.int IntKind.i64 0, Value.int IntKind.i64 0] 96)]
        exact row_cell' _ _ _ j _ (by simp [hj])
      have D := Hid.mk' (And.intro hB (And.intro hZ (And.intro hc0 (And.intro hc1 (And.intro hf0 hrow)))))
      clear hB hZ hc0 hc1 hf0 hrow hW sz hp E h0
      go_wp2_with (fail)
      go_loopw [3, 14] (fun at' i wr => ∃ k a : Nat, at' = .int .i64 (a : Int) ∧ i = .int .i64 (k : Int) ∧ Below w.heap.size w wr ∧ Hid (w.heap.size + 1 < wr.heap.size ∧ wr.cell? ⟨w.heap.size, 0, none⟩ = some (.int .i64 0) ∧ wr.cell? ⟨w.heap.size, 1, none⟩ = some (.int .i64 0) ∧ (∀ k, wr.frozen? ⟨w.heap.size, k, none⟩ = false) ∧ (∀ j n, ps[j]? = some n → wr.cell? ⟨w.heap.size + 1, j, none⟩ = some (.string n)) ∧ pathFrom (ps.drop k) k a = pathFrom ps 0 0) ∧ k ≤ ps.length ∧ k ≤ 16 ∧ a ≤ 33 * k) (fun _ i _ => ps.length - (intOf i).toNat)
      case atStart => exact ⟨0, 0, rfl, rfl, D.out.1, ⟨D.out.2.1, D.out.2.2.1, D.out.2.2.2.1, D.out.2.2.2.2.1, D.out.2.2.2.2.2, rfl⟩, by omega, by omega, by omega⟩
      case round =>
        obtain ⟨k, a, rfl, rfl, hbw, HD, hk, hk16, ha⟩ := hrel
        obtain ⟨hZ, hc0, hc1, hf, hrow, hpf⟩ := HD.out
        have hf0 := hf 0
        have hf1 := hf 1
        by_cases hkl : k < ps.length
        · have hlt : (k : Int) < (ps.length : Int) := by omega
          obtain ⟨n, hn⟩ : ∃ n, ps[k]? = some n := ⟨_, List.getElem?_eq_getElem hkl⟩
          have hcell := hrow k n hn
          have hsz2 : n.size ≤ s.size := hP2.out n (List.mem_of_getElem? hn)
          have hdrop : ps.drop k = n :: ps.drop (k + 1) := by
            rw [List.drop_eq_getElem_cons hkl]
            rw [List.getElem?_eq_getElem hkl] at hn
            rw [Option.some.inj hn]
          rw [hdrop, pathFrom] at hpf
          have PF := Hid.mk' hpf
          have ROW := Hid.mk' hrow
          have FZ := Hid.mk' hf
          clear hpf hrow hf HD hdrop hn
          by_cases h16 : k = 16
          · have h16' : ((k : Int) == 16) = true := by simp; omega
            have PF2 := Hid.mk' (show pathD s = (3, a) from by rw [E2.out, ← PF.out, if_pos h16])
            clear PF h16
            go_wp2_with (fail)
            have h2 := two_cells (x := .int .i64 3) (y := .int .i64 a) hc0 hc1
            (try simp only [Exit.noGoto_ret])
            refine bodyPost_ret (spot_results2 rfl (.int .i64 3) (.int .i64 a) rfl h2.1 h2.2) rfl ⟨?_, (hbw.setCell (Nat.le_refl _) _).setCell (Nat.le_refl _) _⟩
            rw [PF2.out]
            rfl
          · have h16' : ((k : Int) == 16) = false := by simp; omega
            rw [if_neg h16] at PF
            go_wp2_with (fail)
            refine (check_any n wr (by omega)).mono ?_
            rintro e W2 ⟨rfl, hB2⟩
            have d0 : W2.cell? ⟨w.heap.size, 0, none⟩ = some (.int .i64 0) := (hB2.cell (p := ⟨w.heap.size, 0, none⟩) (by show w.heap.size < _; omega)).trans hc0
            have d1 : W2.cell? ⟨w.heap.size, 1, none⟩ = some (.int .i64 0) := (hB2.cell (p := ⟨w.heap.size, 1, none⟩) (by show w.heap.size < _; omega)).trans hc1
            have e0 : W2.frozen? ⟨w.heap.size, 0, none⟩ = false := (hB2.frozen (p := ⟨w.heap.size, 0, none⟩) (by show w.heap.size < _; omega)).trans hf0
            have e1 : W2.frozen? ⟨w.heap.size, 1, none⟩ = false := (hB2.frozen (p := ⟨w.heap.size, 1, none⟩) (by show w.heap.size < _; omega)).trans hf1
            have hne : ¬ w.heap.size = W2.heap.size := by have := hB2.size; omega
            have hlt2 : w.heap.size < W2.heap.size := by have := hB2.size; omega
            have a0 : ∀ o, (W2.alloc o).cell? ⟨w.heap.size, 0, none⟩ = some (.int .i64 0) := fun o => (World.cell?_alloc_old _ _ _ (by show w.heap.size ≠ _; omega)).trans d0
            have a1 : ∀ o, (W2.alloc o).cell? ⟨w.heap.size, 1, none⟩ = some (.int .i64 0) := fun o => (World.cell?_alloc_old _ _ _ (by show w.heap.size ≠ _; omega)).trans d1
            have b0 : ∀ o, (W2.alloc o).frozen? ⟨w.heap.size, 0, none⟩ = false := fun o => (World.frozen?_alloc_old _ _ _ (by show w.heap.size ≠ _; omega)).trans e0
            have b1 : ∀ o, (W2.alloc o).frozen? ⟨w.heap.size, 1, none⟩ = false := fun o => (World.frozen?_alloc_old _ _ _ (by show w.heap.size ≠ _; omega)).trans e1
            by_cases he : (spotD n).1 = 0
            · have he' : (((spotD n).1 : Nat) : Int) = 0 := by omega
              rw [if_neg (by omega)] at PF
              have hn32 := spot_ok n he
              have hw1 : IntKind.i64.wrap ((n.size : Int) + 1) = (n.size : Int) + 1 := by rw [IntKind.wrap_i64]; omega
              have hw2 : IntKind.i64.wrap ((a : Int) + ((n.size : Int) + 1)) = (a : Int) + ((n.size : Int) + 1) := by rw [IntKind.wrap_i64]; omega
              have hw3 : IntKind.i64.wrap ((k : Int) + 1) = (k : Int) + 1 := by rw [IntKind.wrap_i64]; omega
              have G := Hid.mk' (show ∀ o, w.heap.size + 1 < (W2.alloc o).heap.size ∧ (W2.alloc o).cell? ⟨w.heap.size, 0, none⟩ = some (.int .i64 0) ∧ (W2.alloc o).cell? ⟨w.heap.size, 1, none⟩ = some (.int .i64 0) ∧ (∀ k, (W2.alloc o).frozen? ⟨w.heap.size, k, none⟩ = false) ∧ (∀ j n, ps[j]? = some n → (W2.alloc o).cell? ⟨w.heap.size + 1, j, none⟩ = some (.string n)) from fun o => by
                have hs2 := hB2.size
                refine ⟨by rw [show (W2.alloc o).heap.size = W2.heap.size + 1 from Array.size_push _]; omega, a0 o, a1 o, fun k => ?_, fun j n hj => ?_⟩
                · exact (World.frozen?_alloc_old _ _ _ (by show w.heap.size ≠ _; omega)).trans ((hB2.frozen (p := ⟨w.heap.size, k, none⟩) (by show w.heap.size < _; omega)).trans (FZ.out k))
                · exact (World.cell?_alloc_old _ _ _ (by show w.heap.size + 1 ≠ _; omega)).trans ((hB2.cell (p := ⟨w.heap.size + 1, j, none⟩) (by show w.heap.size + 1 < _; omega)).trans (ROW.out j n hj)))
              go_wp2_with (fail)
              go_roundw
              case rel =>
                refine ⟨k + 1, a + (n.size + 1), ?_, ?_, (hbw.trans (hB2.mono (by omega))).alloc (by omega) _, ⟨(G.out _).1, (G.out _).2.1, (G.out _).2.2.1, (G.out _).2.2.2.1, (G.out _).2.2.2.2, PF.out⟩, by omega, by omega, by omega⟩
                · simp
                · simp
              case measure => simp [intOf]; omega
            · have he' : ¬ (((spotD n).1 : Nat) : Int) = 0 := by omega
              have PF2 := Hid.mk' (show pathD s = ((spotD n).1, a + (spotD n).2) from by rw [E2.out, ← PF.out, if_pos he])
              clear PF he
              have hat : IntKind.i64.wrap ((a : Int) + ((spotD n).2 : Int)) = ((a + (spotD n).2 : Nat) : Int) := by
                have := spot_le n
                rw [IntKind.wrap_i64]; omega
              go_wp2_with (fail)
              have h2 := two_cells (x := .int .i64 (spotD n).1) (y := .int .i64 ((a : Int) + ((spotD n).2 : Int))) d0 d1
              have hsw : ∀ (v : World) (p : Addr) (x : Value), (v.setCell p x).heap.size = v.heap.size := fun v p x => by simp
              (try simp only [Exit.noGoto_ret])
              refine bodyPost_ret (spot_results2 rfl (.int .i64 (spotD n).1) (.int .i64 ((a : Int) + ((spotD n).2 : Int))) rfl ((World.cell?_alloc_old _ _ _ (by show w.heap.size ≠ _; rw [hsw, hsw]; omega)).trans h2.1) ((World.cell?_alloc_old _ _ _ (by show w.heap.size ≠ _; rw [hsw, hsw]; omega)).trans h2.2)) rfl ⟨?_, (((hbw.trans (hB2.mono (by omega))).setCell (Nat.le_refl _) _).setCell (Nat.le_refl _) _).alloc (by rw [hsw, hsw]; omega) _⟩
              rw [PF2.out]
              rfl
        · have hlt : ¬ ((k : Int) < (ps.length : Int)) := by omega
          have PF2 := Hid.mk' (show pathD s = (0, 0) from by rw [E2.out, ← hpf, List.drop_of_length_le (by omega)]; rfl)
          clear hpf hrow hf HD
          go_wp2_with (fail)
          have h2 := two_cells (x := .int .i64 0) (y := .int .i64 0) hc0 hc1
          (try simp only [Exit.noGoto_ret])
          refine bodyPost_ret (spot_results2 rfl (.int .i64 0) (.int .i64 0) rfl h2.1 h2.2) rfl ⟨?_, (hbw.setCell (Nat.le_refl _) _).setCell (Nat.le_refl _) _⟩
          rw [PF2.out]
          rfl
end Go.Proofs

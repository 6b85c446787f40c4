/- A part of the proof of DeskLimits: the runs of the document's example and of the law's body, and facts of the row. Conditions: none. -/
import Derived.Test.YtcagaoplekniaaaGreatDoorDMust
import Derived.Deep.OwnRows
import Derived.Laws.BytesString
import Derived.Laws.Cells
namespace Go.Proofs
open Go.RowKit Go.Lib

set_option maxRecDepth 1000000 in
theorem tool_nil (w : World) : Calls Tryz.prog 7 #[.pointer none] w fun e w' => e = .returned (.pointer none) ∧ w' = w := by
  go_enter Tryz.func7, Tryz.ntmps7
  go_wp2
  go_ret
  exact ⟨rfl, rfl⟩

theorem made_cell (w : World) (n j : Nat) (h : j < n) : (w.alloc (.cells (madeCells #[.int .u8 0] n) 5)).cell? ⟨w.heap.size, j, none⟩ = some (.int .u8 0) := by
  have hb : (w.alloc (.cells (madeCells #[.int .u8 0] n) 5)).heap[w.heap.size]? = some (.cells (madeCells #[.int .u8 0] n) 5) := by
    show (w.heap.push _)[w.heap.size]? = _
    simp
  unfold World.cell?
  rw [hb]
  simp [madeCells, h, Nat.mod_one]
theorem made_free (w : World) (n j : Nat) : (w.alloc (.cells (madeCells #[.int .u8 0] n) 5)).frozen? ⟨w.heap.size, j, none⟩ = false := by
  have hb : (w.alloc (.cells (madeCells #[.int .u8 0] n) 5)).heap[w.heap.size]? = some (.cells (madeCells #[.int .u8 0] n) 5) := by
    show (w.heap.push _)[w.heap.size]? = _
    simp
  unfold World.frozen?
  rw [hb]
  simp
theorem push_blanks : ∀ (n : Nat) (s : ByteArray), (List.replicate n (32 : Int)).foldl (fun r n => r.push (UInt8.ofNat n.toNat)) s = ⟨s.data ++ Array.replicate n 32⟩
  | 0, s => by simp
  | n + 1, s => by
    rw [List.replicate_succ, List.foldl_cons, push_blanks n]
    show (⟨(s.data.push 32) ++ Array.replicate n 32⟩ : ByteArray) = _
    congr 1
    rw [Array.push_eq_append, Array.append_assoc, ← Array.replicate_one, Array.replicate_append_replicate, Nat.add_comm]
theorem conv_blanks (w : World) (b n : Nat) (hc : ∀ j, j < n → w.cell? ⟨b, j, none⟩ = some (.int .u8 32)) : (convert 31 9 (.slice (some ⟨b, 0, none⟩) n n)).run Tryz.prog w = .ok (.string ⟨Array.replicate n 32⟩) w := by
  rw [run_convert_bytes_string w 31 9 5 _ _ _ Tryz.underlying31 Tryz.underlying5 Tryz.underlying9]
  have hl : (loadCells ⟨b, 0, none⟩ n).run Tryz.prog w = .ok ((List.replicate n (32 : Int)).map (Value.int .u8)).toArray w := by
    rw [run_loadCells w ⟨b, 0, none⟩ n (fun _ => .int .u8 32) (fun j hj => by
      have : (⟨b, 0, none⟩ : Addr).add j = ⟨b, j, none⟩ := by unfold Addr.add; split <;> simp_all
      rw [this]; exact hc j hj)]
    congr 2
    apply List.ext_getElem?
    intro i
    simp only [List.getElem?_map, List.getElem?_replicate]
    by_cases hi : i < n <;> simp [hi]
  rw [run_bytesToString w ⟨b, 0, none⟩ n n _ hl, push_blanks]
  simp

theorem cell_set (w : World) {b k : Nat} {u v : Value} (h : w.cell? ⟨b, k, none⟩ = some u) : (w.setCell ⟨b, k, none⟩ v).cell? ⟨b, k, none⟩ = some v := World.cell?_setCell_same _ _ _ h
theorem cell_set_other (w : World) {b j k : Nat} {v : Value} (h : j ≠ k) : (w.setCell ⟨b, k, none⟩ v).cell? ⟨b, j, none⟩ = w.cell? ⟨b, j, none⟩ := World.cell?_setCell_other _ _ _ _ (by intro e; injection e with _ e2 _; exact h e2.symm)
def runOutD (n : Nat) : Value := if n ≤ 20 then .tuple #[.string ⟨#[]⟩, .agg #[.int .i64 0, .int .i64 0]] else .tuple #[.string ⟨#[]⟩, .agg #[.int .i64 3, .int .i64 262144]]

set_option maxRecDepth 1000000 in
set_option maxHeartbeats 4000000 in
theorem law_walk (text : ByteArray) (b : Int) (W : World) (Pw : World → Prop) (hP : Pw W) (hst : ∀ w w' : World, Pw w → Below W.heap.size w w' → Pw w')
    (bl : Nat → ByteArray) (hbl : ∀ n, bl n = ⟨Array.replicate n 32⟩)
    (wakes : ∀ w, Pw w → Calls Tryz.prog 4 #[] w fun e w' => e = .returned (.bool true) ∧ Below w.heap.size w w')
    (doNil : ∀ w, Pw w → Calls Tryz.prog 5 #[.pointer none, .string text] w fun e w' => e = .returned (.tuple #[.string ⟨#[]⟩, .int .i64 1]) ∧ Below w.heap.size w w')
    (newNil : ∀ w, Pw w → Calls Tryz.prog 6 #[.pointer none] w fun e w' => e = .returned (.tuple #[.pointer none, .int .i64 1]) ∧ Below w.heap.size w w')
    (run : ∀ n w, n < 40 → Pw w → Calls Tryz.prog 8 #[.string (bl (262124 + n))] w fun e w' => e = .returned (runOutD n) ∧ Below w.heap.size w w') :
    Calls Tryz.prog 3 #[.string text, .int .i64 b] W fun e w' => e = .returned (.bool true) ∧ Below W.heap.size W w' := by
  go_enter Tryz.func3, Tryz.ntmps3
  go_wp2_with (fail)
  refine (wakes _ hP).mono ?_
  rintro e W1 ⟨rfl, B1⟩
  have P1 := hst _ _ hP B1
  go_wp2_with (fail)
  refine (doNil _ P1).mono ?_
  rintro e W2 ⟨rfl, B2⟩
  have B2 := B1.trans (B2.mono B1.size)
  have P2 := hst _ _ hP B2
  clear P1 B1
  go_wp2_with (fail)
  refine (newNil _ P2).mono ?_
  rintro e W3 ⟨rfl, B3⟩
  have B3 := B2.trans (B3.mono B2.size)
  have P3 := hst _ _ hP B3
  clear P2 B2
  go_wp2_with (fail)
  refine (tool_nil _).mono ?_
  rintro e w' ⟨rfl, rfl⟩
  go_wp2_with (fail)
  refine (wakes _ P3).mono ?_
  rintro e W4 ⟨rfl, B4⟩
  have B4 := B3.trans (B4.mono B3.size)
  have P4 := hst _ _ hP B4
  clear P3 B3 doNil newNil wakes
  go_wp2_with (fail)
  · have hn : 0 < 40 := by omega
    obtain ⟨N, hN⟩ : ∃ N : Nat, Hid (N = 262124 + 0) := ⟨_, rfl⟩

    -- N blanks are made, and filled
    have hNb : N ≤ 262200 := by have := hN.out; omega
    rw [show (262124 : Int) = (N : Int) by (have := hN.out; omega)]
    have hmk : ∀ w : World, (Instr.makeSlice 31 (.int .i64 (N : Int)) (.int .i64 (N : Int))).run Tryz.prog w = .ok (.slice (some ⟨w.heap.size, 0, none⟩) N N) (w.alloc (.cells (madeCells #[.int .u8 0] N) 5)) := fun w =>
      run_make_row' (P := Tryz.prog) 31 5 (.int .u8 0) 1 Tryz.underlying31 (by kernel_rfl) rfl .i64 .i64 N (by have := hN.out; omega) (by have := hN.out; omega) w
    rw [hmk]
    simp only [Result.andThen]
    rw [Oper.upon_value]
    go_wp2_with (fail)
    have z0 : W4.heap.size < (W4.alloc (Obj.cells (madeCells #[Value.int IntKind.u8 0] N) 5)).heap.size := by rw [World.size_alloc]; omega
    have B5 : Below W.heap.size W (W4.alloc (Obj.cells (madeCells #[Value.int IntKind.u8 0] N) 5)) := B4.alloc B4.size _
    have c5 : ∀ j, j < N → (W4.alloc (Obj.cells (madeCells #[Value.int IntKind.u8 0] N) 5)).cell? ⟨W4.heap.size, j, none⟩ = some (.int .u8 0) := fun j hj => made_cell W4 N j hj
    have f5 : ∀ j, (W4.alloc (Obj.cells (madeCells #[Value.int IntKind.u8 0] N) 5)).frozen? ⟨W4.heap.size, j, none⟩ = false := fun j => made_free W4 N j
    have hs4 : W.heap.size ≤ W4.heap.size := B4.size
    generalize W4.alloc (Obj.cells (madeCells #[Value.int IntKind.u8 0] N) 5) = W5 at B5 c5 f5 z0 ⊢
    generalize hb4 : W4.heap.size = bk at c5 f5 hs4 z0 ⊢
    have P5 := hst _ _ hP B5
    clear hmk hb4 B4 P4
    go_loopw [12, 58] (fun u i wr => ∃ k : Nat, i = .int .i64 (k : Int) ∧ k ≤ N ∧ Below W.heap.size W wr ∧ Hid ((∀ j, j < N → wr.cell? ⟨bk, j, none⟩ = some (.int .u8 (if j < k then 32 else 0))) ∧ (∀ j, wr.frozen? ⟨bk, j, none⟩ = false))) (fun _ i _ => N - (RowKit.intOf i).toNat)
    case atStart => exact ⟨0, rfl, by omega, B5, fun j hj => by rw [if_neg (by omega)]; exact c5 j hj, f5⟩
    case round =>
      obtain ⟨k, rfl, hk, Bw, HQ⟩ := hrel
      by_cases hlt : k < N
      · have hck := HQ.out.1 k hlt
        have hzk := HQ.out.2 k
        have hlt' : (k : Int) < (N : Int) := by omega
        have hw64 : wrap64 ((k : Int) + 1) = ((k + 1 : Nat) : Int) := by simp only [wrap64]; omega
        go_wp2_with (fail)
        go_roundw
        case rel =>
          refine ⟨k + 1, by first | rfl | (simp), by omega, Bw.setCell hs4 _, fun j hj => ?_, fun j => by rw [World.frozen?_setCell]; exact HQ.out.2 j⟩
          by_cases hjk : j = k
          · subst hjk
            rw [if_pos (by omega)]
            exact cell_set wr hck
          · rw [cell_set_other wr (by omega), HQ.out.1 j hj]
            by_cases h1 : j < k
            · rw [if_pos h1, if_pos (by omega)]
            · rw [if_neg h1, if_neg (by omega)]
        case measure => simp [RowKit.intOf]; omega
      · have hk2 : k = N := by omega
        subst hk2
        have hconv := conv_blanks wr bk k (fun j hj => by rw [HQ.out.1 j hj, if_pos hj])
        have P6 := hst _ _ hP Bw
        clear HQ hlt hk
        have hrun := run 0 wr hn P6
        rw [hbl, ← hN.out] at hrun
        go_wp2_with (fail)
        refine hrun.mono ?_
        rintro e W7 ⟨rfl, B7⟩
        have B7 := Bw.trans (B7.mono Bw.size)
        have hs7 : W.heap.size ≤ W7.heap.size := B7.size
        clear hrun hconv P6 run
        unfold runOutD
        by_cases h20 : (0 : Nat) ≤ 20
        · rw [if_pos h20]
          have h20' : ¬ ((20 : Int) < 0) := by omega
          go_wp2_with (fail)
          go_ret
          exact ⟨rfl, B7.alloc hs7 _⟩
        · first
            | exact absurd (by omega) h20
            | (rw [if_neg h20]
               have h20' : (20 : Int) < 0 := by omega
               go_wp2_with (fail)
               go_ret
               exact ⟨rfl, B7.alloc hs7 _⟩)
  · obtain ⟨n, hn0⟩ : ∃ n : Nat, b % 40 = (n : Int) := ⟨(b % 40).toNat, by omega⟩
    have hn : n < 40 := by omega
    rw [hn0]
    obtain ⟨N, hN⟩ : ∃ N : Nat, Hid (N = 262124 + n) := ⟨_, rfl⟩

    -- N blanks are made, and filled
    have hNb : N ≤ 262200 := by have := hN.out; omega
    rw [show (262124 + (n : Int) : Int) = (N : Int) by (have := hN.out; omega)]
    have hmk : ∀ w : World, (Instr.makeSlice 31 (.int .i64 (N : Int)) (.int .i64 (N : Int))).run Tryz.prog w = .ok (.slice (some ⟨w.heap.size, 0, none⟩) N N) (w.alloc (.cells (madeCells #[.int .u8 0] N) 5)) := fun w =>
      run_make_row' (P := Tryz.prog) 31 5 (.int .u8 0) 1 Tryz.underlying31 (by kernel_rfl) rfl .i64 .i64 N (by have := hN.out; omega) (by have := hN.out; omega) w
    rw [hmk]
    simp only [Result.andThen]
    rw [Oper.upon_value]
    go_wp2_with (fail)
    have z0 : W4.heap.size < (W4.alloc (Obj.cells (madeCells #[Value.int IntKind.u8 0] N) 5)).heap.size := by rw [World.size_alloc]; omega
    have B5 : Below W.heap.size W (W4.alloc (Obj.cells (madeCells #[Value.int IntKind.u8 0] N) 5)) := B4.alloc B4.size _
    have c5 : ∀ j, j < N → (W4.alloc (Obj.cells (madeCells #[Value.int IntKind.u8 0] N) 5)).cell? ⟨W4.heap.size, j, none⟩ = some (.int .u8 0) := fun j hj => made_cell W4 N j hj
    have f5 : ∀ j, (W4.alloc (Obj.cells (madeCells #[Value.int IntKind.u8 0] N) 5)).frozen? ⟨W4.heap.size, j, none⟩ = false := fun j => made_free W4 N j
    have hs4 : W.heap.size ≤ W4.heap.size := B4.size
    generalize W4.alloc (Obj.cells (madeCells #[Value.int IntKind.u8 0] N) 5) = W5 at B5 c5 f5 z0 ⊢
    generalize hb4 : W4.heap.size = bk at c5 f5 hs4 z0 ⊢
    have P5 := hst _ _ hP B5
    clear hmk hb4 B4 P4
    go_loopw [12, 58] (fun u i wr => ∃ k : Nat, i = .int .i64 (k : Int) ∧ k ≤ N ∧ Below W.heap.size W wr ∧ Hid ((∀ j, j < N → wr.cell? ⟨bk, j, none⟩ = some (.int .u8 (if j < k then 32 else 0))) ∧ (∀ j, wr.frozen? ⟨bk, j, none⟩ = false))) (fun _ i _ => N - (RowKit.intOf i).toNat)
    case atStart => exact ⟨0, rfl, by omega, B5, fun j hj => by rw [if_neg (by omega)]; exact c5 j hj, f5⟩
    case round =>
      obtain ⟨k, rfl, hk, Bw, HQ⟩ := hrel
      by_cases hlt : k < N
      · have hck := HQ.out.1 k hlt
        have hzk := HQ.out.2 k
        have hlt' : (k : Int) < (N : Int) := by omega
        have hw64 : wrap64 ((k : Int) + 1) = ((k + 1 : Nat) : Int) := by simp only [wrap64]; omega
        go_wp2_with (fail)
        go_roundw
        case rel =>
          refine ⟨k + 1, by first | rfl | (simp), by omega, Bw.setCell hs4 _, fun j hj => ?_, fun j => by rw [World.frozen?_setCell]; exact HQ.out.2 j⟩
          by_cases hjk : j = k
          · subst hjk
            rw [if_pos (by omega)]
            exact cell_set wr hck
          · rw [cell_set_other wr (by omega), HQ.out.1 j hj]
            by_cases h1 : j < k
            · rw [if_pos h1, if_pos (by omega)]
            · rw [if_neg h1, if_neg (by omega)]
        case measure => simp [RowKit.intOf]; omega
      · have hk2 : k = N := by omega
        subst hk2
        have hconv := conv_blanks wr bk k (fun j hj => by rw [HQ.out.1 j hj, if_pos hj])
        have P6 := hst _ _ hP Bw
        clear HQ hlt hk
        have hrun := run n wr hn P6
        rw [hbl, ← hN.out] at hrun
        go_wp2_with (fail)
        refine hrun.mono ?_
        rintro e W7 ⟨rfl, B7⟩
        have B7 := Bw.trans (B7.mono Bw.size)
        have hs7 : W.heap.size ≤ W7.heap.size := B7.size
        clear hrun hconv P6 run
        unfold runOutD
        by_cases h20 : n ≤ 20
        · rw [if_pos h20]
          have h20' : ¬ ((20 : Int) < (n : Int)) := by omega
          go_wp2_with (fail)
          go_ret
          exact ⟨rfl, B7.alloc hs7 _⟩
        · first
            | exact absurd (by omega) h20
            | (rw [if_neg h20]
               have h20' : (20 : Int) < (n : Int) := by omega
               go_wp2_with (fail)
               go_ret
               exact ⟨rfl, B7.alloc hs7 _⟩)
end Go.Proofs

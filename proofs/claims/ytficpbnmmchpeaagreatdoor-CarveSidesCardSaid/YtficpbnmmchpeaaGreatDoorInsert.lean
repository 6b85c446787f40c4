/- A part of the proof of CarveSides: the runs of the document's example and of the law's body, and facts of the row. Conditions: none. -/
import Derived.Test.YtficpbnmmchpeaaGreatDoorProg
import Derived.Shelf.RegionOpenPlain
import Derived.WalkKit
import Derived.Lib.Walk
import Derived.Lib.SliceRun
import Derived.Lib.AppendZeros
import Derived.Lib.AppendZerosOnto
import Derived.Lib.Overlaps
import Derived.Laws.Externs
import Derived.Laws.IdiomCopy
import Derived.Shelf.Spec.SlicesInsert
import Derived.Test.YtficpbnmmchpeaaGreatDoorSeatKit
import Derived.Test.YtficpbnmmchpeaaGreatDoorEngM
namespace Go.Proofs
open Go.Shelf Go.RowKit Go.Lib

/-- copy of elements of k cells. -/
theorem run_copy_wide {P : Program} (w : World) (dT sT ty elem : TypeId) (k m : Nat) (b o dLen dCap : Nat) (a : Addr) (sLen sCap : Nat) (cs : List Value)
    (hu : P.underlying dT = some (.slice elem)) (hs : (P.info? elem).map (·.size) = some k) (hm : m = Nat.min sLen dLen) (hn : cs.length = m * k)
    (hsrc : ∀ j v, cs[j]? = some v → w.cell? (a.add j) = some v) (hc : ∀ j, j < cs.length → (w.cell? ⟨b, o + j, none⟩).isSome = true) (hf : ∀ j, j < cs.length → w.frozen? ⟨b, o + j, none⟩ = false) (h1 : ∀ v ∈ cs, v.oneCell' = true) :
    (Builtin.copy_ #[dT, sT] ty #[.slice (some ⟨b, o, none⟩) dLen dCap, .slice (some a) sLen sCap]).run P w = .ok (goInt m) (w.setCells b o cs) := by
  have hl := run_loadCells_list (P := P) w a cs hsrc
  have hst := run_storeCells_cells (P := P) b o cs 0 w (by simpa using hc) (by simpa using hf) h1
  cases hq : P.info? elem with
  | none => simp [hq] at hs
  | some i =>
    have hi : i.size = k := by simpa [hq] using hs
    simp [Builtin.copy_, run_underlying hu, Builtin.lenOf, Builtin.firstCells, sizeOf, typeInfo, hq, hi, ← hm, ← hn, hl, hst]

set_option maxHeartbeats 4000000 in
set_option maxRecDepth 100000 in
theorem insert_shift (b off n c i vb voff m vc : Nat) (cs vs : List Value) (w : World) (hi : i < n) (hm : 0 < m) (hroom : n + m ≤ c) (hc63 : c ≤ 9223372036854775807) (hvb : vb ≠ b)
    (hcl : cs.length = n * 3) (hvl : vs.length = m * 3)
    (hcs : ∀ j v, cs[j]? = some v → w.cell? ⟨b, off + j, none⟩ = some v) (hsp : ∀ j, j < (n + m) * 3 → (w.cell? ⟨b, off + j, none⟩).isSome = true) (hfz : ∀ j, j < (n + m) * 3 → w.frozen? ⟨b, off + j, none⟩ = false)
    (hvs : ∀ j v, vs[j]? = some v → w.cell? ⟨vb, voff + j, none⟩ = some v) (h1c : ∀ v ∈ cs, v.oneCell' = true) (h1v : ∀ v ∈ vs, v.oneCell' = true)
    (tA tB : TypeId) (kA kB : Nat) (hsa : w.shape? vb = some (tA, kA)) (hsb : w.shape? b = some (tB, kB)) (hkB : kB ≠ 0) (hfa : w.frozen? ⟨vb, voff, none⟩ = false) (hfe : w.frozen? ⟨vb, kA, none⟩ = false) :
    Calls Tryz.prog 97 #[.slice (some ⟨b, off, none⟩) n c, .int .i64 i, .slice (some ⟨vb, voff, none⟩) m vc] w fun e w' =>
      e = .returned (.slice (some ⟨b, off, none⟩) (n + m) c) ∧ w' = (w.drew.setCells b (off + (i + m) * 3) (cs.drop (i * 3))).setCells b (off + i * 3) vs := by
  have mixed : Tryz.prog.follows .mixedOrders = true := by kernel_rfl
  have hz1 : ¬ ((m : Int) = 0) := by omega
  have hz2 : ¬ ((i : Int) = (n : Int)) := by omega
  have hsz : (Tryz.prog.info? 138).map (·.size) = some 3 := by kernel_rfl
  have hov : ∀ lb cb, (callFunc 131 #[.slice (some ⟨vb, voff, none⟩) m vc, .slice (some ⟨b, off + (i + m) * 3, none⟩) lb cb]).run Tryz.prog w = .ok (.value (.bool false)) w := fun lb cb => by
    rw [run_callFunc_extern Tryz.func131 (by kernel_rfl) (by kernel_rfl) (by kernel_rfl) (e := Extern.SlicesOverlaps.overlaps #[126, 126] #[4]) (by kernel_rfl),
      Lib.run_overlaps_apart w 126 4 138 Tryz.underlying126 3 Tryz.sizeOf138 ⟨vb, voff, none⟩ ⟨b, off + (i + m) * 3, none⟩ m vc lb cb hvb tA tB kA kB hsa hsb hkB hfa hfe]
    rfl
  have hdl : (cs.drop (i * 3)).length = (n - i) * 3 := by rw [List.length_drop, hcl]; omega
  have hw1 : IntKind.i64.wrap ((i : Int) + (m : Int)) = (i : Int) + (m : Int) := by rw [IntKind.wrap_i64]; omega
  have hb1 : (0 : Int) ≤ (i : Int) + (m : Int) := by omega
  have hin : i ≤ n := by omega
  have htn : ((i : Int) + (m : Int)).toNat = i + m := by omega
  have hb2 : ¬ (c = i + m) := by omega
  have hb3 : (i : Int) ≤ (n : Int) + (m : Int) := by omega
  have hb4 : ¬ (c = i) := by omega
  have hcp1 : ∀ ty dc sc, (Builtin.copy_ #[126, 126] ty #[.slice (some ⟨b, off + (i + m) * 3, none⟩) (n + m - (i + m)) dc, .slice (some ⟨b, off + i * 3, none⟩) (n + m - i) sc]).run Tryz.prog w.drew = .ok (goInt ((n - i : Nat) : Int)) (w.drew.setCells b (off + (i + m) * 3) (cs.drop (i * 3))) := fun ty dc sc =>
    run_copy_wide w.drew _ _ ty 138 3 (n - i) b (off + (i + m) * 3) (n + m - (i + m)) dc ⟨b, off + i * 3, none⟩ (n + m - i) sc (cs.drop (i * 3)) Tryz.underlying126 hsz (by simp only [Nat.min_def]; split <;> omega) hdl
      (fun j v hj => by rw [Addr.add_lit, Nat.add_assoc]; exact hcs (i * 3 + j) v (by rwa [List.getElem?_drop] at hj))
      (fun j hj => by rw [Nat.add_assoc]; exact hsp _ (by omega)) (fun j hj => by rw [Nat.add_assoc]; exact hfz _ (by omega)) (fun v hv => h1c v (List.mem_of_mem_drop hv))
  obtain ⟨W1, hW1⟩ : ∃ W1, W1 = w.drew.setCells b (off + (i + m) * 3) (cs.drop (i * 3)) := ⟨_, rfl⟩
  have hsp1 : ∀ k, k < (n + m) * 3 → (W1.cell? ⟨b, off + k, none⟩).isSome = true := fun k hk => by
    rw [hW1]
    exact isSome_setCells b _ _ _ (fun j hj => by rw [Nat.add_assoc]; exact hsp _ (by omega)) _ (hsp k hk)
  have hcp2 : ∀ (W : World), (∀ x, W.cell? x = W1.cell? x) → (∀ x, W.frozen? x = W1.frozen? x) → ∀ ty dc, (Builtin.copy_ #[126, 126] ty #[.slice (some ⟨b, off + i * 3, none⟩) (n + m - i) dc, .slice (some ⟨vb, voff, none⟩) m vc]).run Tryz.prog W = .ok (goInt m) (W.setCells b (off + i * 3) vs) := fun W hWc hWf ty dc =>
    run_copy_wide W _ _ ty 138 3 m b (off + i * 3) (n + m - i) dc ⟨vb, voff, none⟩ m vc vs Tryz.underlying126 hsz (by simp only [Nat.min_def]; split <;> omega) hvl
      (fun j v hj => by
        rw [Addr.add_lit, hWc, hW1, World.cell?_setCells_out b _ _ _ _ (fun h _ => absurd h hvb)]
        exact hvs j v hj)
      (fun j hj => by rw [hWc, Nat.add_assoc]; exact hsp1 _ (by omega)) (fun j hj => by rw [hWf, hW1, World.frozen?_setCells, Nat.add_assoc]; exact hfz _ (by omega)) h1v
  rw [← hW1] at hcp1
  go_enter Tryz.func97, Tryz.ntmps97
  go_wp2_with (simp only [hov])
  go_region_law_o (refine step_copy_runI rfl _ _ 126 126 rfl _ _ (by simp [Act.eval, Act.put]) (by simp [Act.eval, Act.put]) (hcp1 _ _ _) ?_)
  go_wp2_with (at_builtin; refine wpList_copy_runI _ rfl _ _ 126 126 rfl _ _ rfl rfl (hcp2 _ (fun _ => rfl) (fun _ => rfl) _ _) ?_)
  go_ret
  first | exact ⟨rfl, rfl⟩ | exact ⟨rfl, by rw [hW1]⟩

set_option maxHeartbeats 4000000 in
set_option maxRecDepth 100000 in
/-- slices.Insert of entries, within, where there is no room: a new row. -/
theorem insert_grow (b off n c i vb voff m vc : Nat) (cs vs : List Value) (w : World) (hi : i < n) (hm : 0 < m) (hnc : n ≤ c) (hroom : c < n + m) (hbig : (n + m) * 1024 ≤ 140737488355328)
    (hcl : cs.length = n * 3) (hvl : vs.length = m * 3)
    (hcs : ∀ j v, cs[j]? = some v → w.cell? ⟨b, off + j, none⟩ = some v)
    (hvs : ∀ j v, vs[j]? = some v → w.cell? ⟨vb, voff + j, none⟩ = some v) (h1c : ∀ v ∈ cs, v.oneCell' = true) (h1v : ∀ v ∈ vs, v.oneCell' = true)
    (i0 : TypeInfo) (z : Value) (hi0 : Tryz.prog.info? 138 = some i0) (hz0 : i0.zero = some z) (hzs : i0.size = 3) (hzb : i0.bytes ≤ 1024) (hz3c : z.cells.size = 3) :
    Calls Tryz.prog 97 #[.slice (some ⟨b, off, none⟩) n c, .int .i64 i, .slice (some ⟨vb, voff, none⟩) m vc] w fun e w' =>
      e = .returned (.slice (some ⟨w.heap.size, 0, none⟩) (n + m) (grownCap w (n + m) c 138)) ∧
      w' = (((w.alloc (.cells ((cs.take (i * 3)).toArray ++ Builtin.zeroCells z.cells (n + m - i) ++ Builtin.zeroCells z.cells (grownCap w (n + m) c 138 - (n + m))) 138)).drew.setCells w.heap.size (i * 3) vs).drew).setCells w.heap.size ((i + m) * 3) (cs.drop (i * 3)) := by
  have mixed : Tryz.prog.follows .mixedOrders = true := by kernel_rfl
  have hz1 : ¬ ((m : Int) = 0) := by omega
  have hz2 : ¬ ((i : Int) = (n : Int)) := by omega
  have hz3 : (c : Int) < (n : Int) + (m : Int) := by omega
  have hsz : (Tryz.prog.info? 138).map (·.size) = some 3 := by rw [hi0]; simp [hzs]
  have hbw : b < w.heap.size := block_lt_of_cell (hcs 0 _ (List.getElem?_eq_getElem (by omega)))
  have hvw : vb < w.heap.size := block_lt_of_cell (hvs 0 _ (List.getElem?_eq_getElem (by omega)))
  have hkk : (n : Int) + (m : Int) - (i : Int) = ((n + m - i : Nat) : Int) := by omega
  have hik : i + (n + m - i) = n + m := by omega
  have hbig2 : (n + m) * i0.bytes ≤ 140737488355328 := Nat.le_trans (Nat.mul_le_mul_left _ hzb) hbig
  have hbig3 : (n + m - i) * i0.bytes ≤ 140737488355328 := Nat.le_trans (Nat.mul_le_mul_right _ (by omega)) hbig2
  have hold : (Builtin.firstCells i0.size i (.slice (some ⟨b, off, none⟩) i c)).run Tryz.prog w.drew = .ok (cs.take (i * 3)).toArray w.drew := by
    rw [hzs]
    exact run_firstCells_some w.drew 3 i ⟨b, off, none⟩ i c (cs.take (i * 3)) (by rw [List.length_take]; omega) (fun j v hj => by
      rw [Addr.add_lit]
      rw [List.getElem?_take] at hj
      split at hj
      · exact hcs j v hj
      · cases hj)
  have hrz : ∀ ty, (Builtin.append_ #[126, 3] ty #[.slice (some ⟨b, off, none⟩) i c, .int .i64 ((n : Int) + (m : Int) - (i : Int))]).run Tryz.prog w =
      .ok (.slice (some ⟨w.heap.size, 0, none⟩) (n + m) (grownCap w (n + m) c 138)) (w.drew.alloc (.cells ((cs.take (i * 3)).toArray ++ Builtin.zeroCells z.cells (n + m - i) ++ Builtin.zeroCells z.cells (grownCap w (n + m) c 138 - (n + m))) 138)) := fun ty => by
    have h := Lib.run_append_grow_zeros w 126 3 ty 138 i0 _ .i64 .i64 Tryz.underlying126 Tryz.underlying3 hi0 hz0 (some ⟨b, off, none⟩) i c (cs.take (i * 3)) hold (n + m - i) (by omega) (by omega) (by omega) (by omega) (Nat.le_trans hbig3 (by decide)) (by rw [hik]; exact growslice_fits hroom hbig2)
    rw [hik] at h
    rw [hkk]
    exact h
  obtain ⟨G, hG⟩ : ∃ G, G = grownCap w (n + m) c 138 := ⟨_, rfl⟩
  obtain ⟨ROW, hROW⟩ : ∃ ROW : Array Value, ROW = (cs.take (i * 3)).toArray ++ Builtin.zeroCells z.cells (n + m - i) ++ Builtin.zeroCells z.cells (G - (n + m)) := ⟨_, rfl⟩
  rw [← hG] at hrz ⊢
  rw [← hROW] at hrz ⊢
  have hRl : (n + m) * 3 ≤ ROW.size := by
    rw [hROW]
    simp [Builtin.zeroCells, hz3c]
    omega
  obtain ⟨W1, hW1⟩ : ∃ W1, W1 = w.drew.alloc (.cells ROW 138) := ⟨_, rfl⟩
  rw [← hW1] at hrz
  have hN : ∀ j, j < (n + m) * 3 → (W1.cell? ⟨w.heap.size, j, none⟩).isSome = true := fun j hj => by
    rw [hW1, World.cell?_alloc_at (w := w.drew) ROW _ w.heap.size j rfl, Array.getElem?_eq_getElem (by omega)]; rfl
  have hNf : ∀ j, W1.frozen? ⟨w.heap.size, j, none⟩ = false := fun j => by rw [hW1]; exact World.frozen?_alloc_at (w := w.drew) ROW _ w.heap.size j rfl
  have hOb : ∀ j v, w.cell? ⟨b, j, none⟩ = some v → W1.cell? ⟨b, j, none⟩ = some v := fun j v h => by rw [hW1, World.cell?_alloc_past (w := w.drew) _ b j hbw]; exact h
  have hOv : ∀ j v, w.cell? ⟨vb, j, none⟩ = some v → W1.cell? ⟨vb, j, none⟩ = some v := fun j v h => by rw [hW1, World.cell?_alloc_past (w := w.drew) _ vb j hvw]; exact h
  have hcpA : ∀ (W : World), (∀ x, W.cell? x = W1.cell? x) → (∀ x, W.frozen? x = W1.frozen? x) → ∀ ty dc, (Builtin.copy_ #[126, 126] ty #[.slice (some ⟨w.heap.size, i * 3, none⟩) (n + m - i) dc, .slice (some ⟨vb, voff, none⟩) m vc]).run Tryz.prog W = .ok (goInt m) (W.setCells w.heap.size (i * 3) vs) := fun W hWc hWf ty dc =>
    run_copy_wide W _ _ ty 138 3 m w.heap.size (i * 3) (n + m - i) dc ⟨vb, voff, none⟩ m vc vs Tryz.underlying126 hsz (by simp only [Nat.min_def]; split <;> omega) hvl
      (fun j v hj => by rw [Addr.add_lit, hWc]; exact hOv _ v (hvs j v hj))
      (fun j hj => by rw [hWc]; exact hN _ (by omega)) (fun j hj => by rw [hWf]; exact hNf _) h1v
  have hGn : n + m ≤ G := by rw [hG]; exact grownCap_ge w _ _ _
  have hG63 : G ≤ 9223372036854775807 := by
    have := grownCap_le_maxLen w (n + m) c 138 (by unfold maxLen; omega)
    rw [← hG] at this
    unfold maxLen at this
    omega
  have hGi : ¬ (G = i) := by omega
  have hGim : ¬ (G = i + m) := by omega
  have hci : ¬ (c = i) := by omega
  have hbN : b ≠ w.heap.size := by omega
  have hdl : (cs.drop (i * 3)).length = (n - i) * 3 := by rw [List.length_drop, hcl]; omega
  have hcpB : ∀ (W : World), (∀ x, W.cell? x = (W1.setCells w.heap.size (i * 3) vs).cell? x) → (∀ x, W.frozen? x = (W1.setCells w.heap.size (i * 3) vs).frozen? x) → ∀ ty dc sc, (Builtin.copy_ #[126, 126] ty #[.slice (some ⟨w.heap.size, (i + m) * 3, none⟩) (n + m - (i + m)) dc, .slice (some ⟨b, off + i * 3, none⟩) (n - i) sc]).run Tryz.prog W = .ok (goInt ((n - i : Nat) : Int)) (W.setCells w.heap.size ((i + m) * 3) (cs.drop (i * 3))) := fun W hWc hWf ty dc sc =>
    run_copy_wide W _ _ ty 138 3 (n - i) w.heap.size ((i + m) * 3) (n + m - (i + m)) dc ⟨b, off + i * 3, none⟩ (n - i) sc (cs.drop (i * 3)) Tryz.underlying126 hsz (by simp only [Nat.min_def]; split <;> omega) hdl
      (fun j v hj => by
        rw [Addr.add_lit, hWc, World.cell?_setCells_out _ _ _ _ _ (fun h _ => absurd h hbN), Nat.add_assoc]
        exact hOb _ v (hcs (i * 3 + j) v (by rwa [List.getElem?_drop] at hj)))
      (fun j hj => by rw [hWc]; exact isSome_setCells _ _ _ _ (fun t ht => hN _ (by omega)) _ (hN _ (by omega)))
      (fun j hj => by rw [hWf, World.frozen?_setCells]; exact hNf _) (fun v hv => h1c v (List.mem_of_mem_drop hv))
  subst hW1
  have hE1 : ∀ x, ((w.alloc (.cells ROW 138)).drew).cell? x = (w.drew.alloc (.cells ROW 138)).cell? x := fun x => rfl
  have hE2 : ∀ x, ((w.alloc (.cells ROW 138)).drew).frozen? x = (w.drew.alloc (.cells ROW 138)).frozen? x := fun x => rfl
  have hF1 : ∀ x, (((w.alloc (.cells ROW 138)).drew.setCells w.heap.size (i * 3) vs).drew).cell? x = ((w.drew.alloc (.cells ROW 138)).setCells w.heap.size (i * 3) vs).cell? x := fun x => rfl
  have hF2 : ∀ x, (((w.alloc (.cells ROW 138)).drew.setCells w.heap.size (i * 3) vs).drew).frozen? x = ((w.drew.alloc (.cells ROW 138)).setCells w.heap.size (i * 3) vs).frozen? x := fun x => rfl
  have hw1 : IntKind.i64.wrap ((i : Int) + (m : Int)) = (i : Int) + (m : Int) := by rw [IntKind.wrap_i64]; omega
  have hb1 : (0 : Int) ≤ (i : Int) + (m : Int) := by omega
  have hin : i ≤ n := by omega
  have htn : ((i : Int) + (m : Int)).toNat = i + m := by omega
  have hb3 : (i : Int) ≤ (n : Int) := by omega
  clear hkk hik hold hROW hG hRl hbig2 hbig3 hi0 hz0 hzs hzb hz3c
  go_enter Tryz.func97, Tryz.ntmps97
  go_wp2_with (first
    | (at_builtin; refine Lib.wpList_append_run _ rfl _ _ _ _ rfl _ _ rfl rfl _ _ (hrz _) ?_)
    | (at_builtin; refine wpList_copy_runI _ rfl _ _ 126 126 rfl _ _ rfl rfl (hcpA _ hE1 hE2 _ _) ?_)
    | (at_builtin; refine wpList_copy_runI _ rfl _ _ 126 126 rfl _ _ rfl rfl (hcpB _ (fun _ => rfl) (fun _ => rfl) _ _ _) ?_))
  go_region_law_o (refine step_copy_runI rfl _ _ 126 126 rfl (.slice (some ⟨w.heap.size, (i + m) * 3, none⟩) (n + m - (i + m)) (G - (i + m))) (.slice (some ⟨b, off + i * 3, none⟩) (n - i) (c - i)) (by simp [Act.eval, Act.put]) (by simp [Act.eval, Act.put]) (hcpB _ hF1 hF2 3 (G - (i + m)) (c - i)) ?_)
  go_wp2
  go_ret
  exact ⟨rfl, rfl⟩
end Go.Proofs

namespace Go.Eng
open Go Go.RowKit Go.Proofs
variable [Syms]

/-- slices.Insert of one entry, within. -/
noncomputable def insW (args : List EV) (h : EH) : Option (EV × EH) :=
  match args with
  | [.slice n off len none 3, .int .i64 i, .slice vn voff 1 _ 3] =>
    match decide (0 ≤ i) && (Nat.blt i.toNat len && (Nat.ble len 1000000 && !Nat.beq n vn)) with
    | true => match h.get n, h.get vn with
      | some (.cells c e _), some (.cells cv ev _) => match Nat.beq e 138 && Nat.beq ev 138, readFrom c off (len * 3), readFrom cv voff 3 with
        | true, some old, some new => some (.slice h.next 0 (len + 1) none 3, (⟨h.objs.del n, h.next + 1⟩ : EH).set h.next (.cells (rowOf (old.take (i.toNat * 3) ++ (new ++ old.drop (i.toNat * 3)))) 138 false))
        | _, _, _ => none
      | _, _ => none
    | false => none
  | _ => none

omit [Syms] in
theorem turned_setCells {b : Nat} {e : TypeId} {fr : Nat × Nat} : ∀ (vs : List Value) (o : Nat) (c : Array Value) (w : World), w.heap[b]? = some (.cells c e fr) → Turned b (.cells (setRow c o vs) e fr) w (w.setCells b o vs)
  | [], _, _, _, h => .refl h
  | v :: vs, o, c, w, h => by
    rw [World.setCells]
    have h1 := turned_setCell (i := o) h v
    exact h1.trans (turned_setCells vs (o + 1) _ _ h1.at_)

omit [Syms] in
theorem toArr_get {α : Type} (l : List α) (k : Nat) : l.toArray[k]? = l[k]? := by simp

omit [Syms] in
theorem splice_get {α : Type} (cs vs : List α) (i k : Nat) (hi : i ≤ cs.length) : (cs.take i ++ (vs ++ cs.drop i))[k]? = if k < i then cs[k]? else if k < i + vs.length then vs[k - i]? else cs[k - vs.length]? := by
  by_cases h1 : k < i
  · rw [if_pos h1, List.getElem?_append_left (by rw [List.length_take]; omega), List.getElem?_take, if_pos h1]
  · rw [if_neg h1, List.getElem?_append_right (by rw [List.length_take]; omega), List.length_take, Nat.min_eq_left hi]
    by_cases h2 : k < i + vs.length
    · rw [if_pos h2, List.getElem?_append_left (by omega)]
    · rw [if_neg h2, List.getElem?_append_right (by omega), List.getElem?_drop]
      congr 1; omega

theorem insW_ok : IntrOk Go.Proofs.Tryz.prog 97 insW := by
  intro args h v h' hx ρ w args' hr ha
  unfold insW at hx
  split at hx
  rotate_left
  · cases hx
  rename_i n off len i vn voff vcap
  split at hx
  rotate_left
  · cases hx
  rename_i hb
  split at hx
  rotate_left
  · cases hx
  rename_i c e vr cv ev vrv hg hgv
  split at hx
  rotate_left
  · cases hx
  rename_i old new hty hold hnew
  cases hx
  simp only [Bool.and_eq_true, Bool.not_eq_true'] at hb hty
  obtain ⟨b1, b2, b3, b4⟩ := hb
  obtain ⟨t1, t2⟩ := hty
  have b1 := of_decide_eq_true b1
  have b2 : i.toNat < len := Nat.le_of_ble_eq_true b2
  have b3 := Nat.le_of_ble_eq_true b3
  have b4 := Nat.ne_of_beq_eq_false b4
  have t1 := Nat.eq_of_beq_eq_true t1
  have t2 := Nat.eq_of_beq_eq_true t2
  subst t1 t2
  obtain ⟨i, rfl⟩ := Int.eq_ofNat_of_zero_le b1
  simp only [Int.toNat_natCast] at *
  obtain ⟨v1, v2, v3, rfl⟩ : ∃ v1 v2 v3, args' = #[v1, v2, v3] := by
    have h1 := ha.length
    match args', h1 with
    | ⟨[a, b, c]⟩, _ => exact ⟨a, b, c, rfl⟩
  cases ha with | cons _ _ _ _ ha1 ha2 => ?_
  cases ha2 with | cons _ _ _ _ ha2 ha3 => ?_
  cases ha3 with | cons _ _ _ _ ha3 _ => ?_
  cases ha2
  cases ha1 with | slice _ _ _ _ _ Lc o C hL hlc hcc hoo => ?_
  cases ha3 with | slice _ _ _ _ _ Lv ov Cv hLv hlcv hccv hoov => ?_
  have hC := hcc.2 rfl
  obtain ⟨ho, hsz⟩ : o = Lc.sh + off ∧ o + C * 3 ≤ Lc.sz := by
    rcases hoo with h3 | h3
    · omega
    · exact h3
  obtain ⟨hov, hszv⟩ : ov = Lv.sh + voff ∧ ov + Cv * 3 ≤ Lv.sz := by
    rcases hoov with h3 | h3
    · omega
    · exact h3
  obtain ⟨cc, fr, p1, p2, p3, p4, p5⟩ := hr.live n _ Lc hg hL
  obtain ⟨cd, fv, r1, r2, r3, r4, r5⟩ := hr.live vn _ Lv hgv hLv
  have hu : Go.Proofs.Tryz.prog.underlying 138 ≠ some (.int .u8) := by
    rw [Go.Proofs.Tryz.underlying138]; intro e; cases e
  have p4' : fr.1 = fr.2 := by
    rcases p4 with p4 | ⟨_, p4⟩
    · exact p4
    · exact absurd p4 hu
  have r4' : fv.1 = fv.2 := by
    rcases r4 with r4 | ⟨_, r4⟩
    · exact r4
    · exact absurd r4 hu
  have hrow : RowAt Go.Proofs.Tryz.prog ρ w Lc c 138 cc fr := ⟨p1, p2, fun k _ => by omega, p5⟩
  have hrowv : RowAt Go.Proofs.Tryz.prog ρ w Lv cv 138 cd fv := ⟨r1, r2, fun k _ => by omega, r5⟩
  obtain ⟨rb, rv⟩ := hrow.read hold
  obtain ⟨rbv, rvv⟩ := hrowv.read hnew
  have ro := hrow.ones hold
  have rov := hrowv.ones hnew
  rw [← ho] at rb rv ro
  rw [← hov] at rbv rvv rov
  have rb := rb (by omega)
  have rbv := rbv (by omega)
  have hne : Lv.b ≠ Lc.b := fun e => b4 (hr.inj _ _ _ _ _ _ hgv hg hLv hL e).symm
  generalize hcs : (cc.extract o (o + len * 3)).toList = cs at rv ro
  generalize hvs : (cd.extract ov (ov + 3)).toList = vs at rvv rov
  have hcl : cs.length = len * 3 := by rw [← hcs]; simp; omega
  have hvl : vs.length = 1 * 3 := by rw [← hvs]; simp; omega
  have hcg : ∀ j u, cs[j]? = some u → cc[o + j]? = some u := fun j u hj => by
    rw [← hcs, Array.getElem?_toList, Array.getElem?_extract] at hj
    split at hj
    · exact hj
    · cases hj
  have hvg : ∀ j u, vs[j]? = some u → cd[ov + j]? = some u := fun j u hj => by
    rw [← hvs, Array.getElem?_toList, Array.getElem?_extract] at hj
    split at hj
    · exact hj
    · cases hj
  have hceq : ∀ k, k < len * 3 → cs[k]? = cc[o + k]? := fun k hk => by
    rw [← hcs, Array.getElem?_toList, Array.getElem?_extract, if_pos (by omega)]
  obtain ⟨r0, x0⟩ := hr.reserve (fun _ => False) (k := h.next + 1) (Nat.le_succ _)
  have hnone := hr.fresh (n := h.next) (Nat.le_refl _)
  have hboth : VRels ρ (old.take (i * 3) ++ (new ++ old.drop (i * 3))) (cs.take (i * 3) ++ (vs ++ cs.drop (i * 3))) := (rv.take _).append (rvv.append (rv.drop _))
  have hones : ∀ u ∈ cs.take (i * 3) ++ (vs ++ cs.drop (i * 3)), u.oneCell' = true := by
    intro u hu
    rcases List.mem_append.1 hu with hu | hu
    · exact ro u (List.mem_of_mem_take hu)
    · rcases List.mem_append.1 hu with hu | hu
      · exact rov u hu
      · exact ro u (List.mem_of_mem_drop hu)
  have hfz : ∀ k, w.frozen? ⟨Lc.b, k, none⟩ = false := fun k => by
    obtain ⟨f1, f2⟩ := fr
    simp only at p4'
    simp [World.frozen?, p1]; omega
  have hfzv : ∀ k, w.frozen? ⟨Lv.b, k, none⟩ = false := fun k => by
    obtain ⟨f1, f2⟩ := fv
    simp only at r4'
    simp [World.frozen?, r1]; omega
  have henter : (callFunc 97 #[.slice (some ⟨Lc.b, o, none⟩) len C, .int .i64 (i : Int), .slice (some ⟨Lv.b, ov, none⟩) 1 Cv]).run Go.Proofs.Tryz.prog w = .ok (.enter 97 _) w := enter0 (show tb0.fn 97 = some Go.Proofs.Tryz.f97 by kernel_rfl) rfl _ w
  refine .inl ⟨henter, fun _ => callsIn_wide.2 ?_⟩
  by_cases hroom : len + 1 ≤ C
  · refine (insert_shift Lc.b o len C i Lv.b ov 1 Cv cs vs w b2 (by omega) hroom hC hne hcl hvl (fun j u hj => by rw [Eng.cell_row p1]; exact hcg j u hj)
      (fun j hj => by rw [Eng.cell_row p1, Array.getElem?_eq_getElem (by omega)]; rfl) (fun j _ => hfz _) (fun j u hj => by rw [Eng.cell_row r1]; exact hvg j u hj) ro rov 138 138 cd.size cc.size (shape_row r1) (shape_row p1) (by omega) (hfzv _) (hfzv _)).mono ?_
    rintro e w' ⟨rfl, hw'⟩
    refine ⟨_, rfl, ?_⟩
    let R : Array Value := setRow (setRow cc (o + (i + 1) * 3) (cs.drop (i * 3))) (o + i * 3) vs
    have T0 : Turned Lc.b (.cells cc 138 fr) w w.drew := ⟨rfl, rfl, rfl, rfl, p1, fun _ _ => rfl⟩
    have T1 := turned_setCells (cs.drop (i * 3)) (o + (i + 1) * 3) cc w.drew p1
    have T2 := turned_setCells vs (o + i * 3) _ _ T1.at_
    rw [← hw'] at T2
    have T : Turned Lc.b (.cells R 138 fr) w w' := (T0.trans T1).trans T2
    have hRs : R.size = cc.size := by rw [setRow_size, setRow_size]
    obtain ⟨q1, q2⟩ := r0.rename (nm := h.next) (sh := o) (o' := .cells (rowOf (old.take (i * 3) ++ (new ++ old.drop (i * 3)))) 138 false) hg hL hnone (Nat.lt_succ_self _) T
      ⟨R, fr, rfl, by rw [hRs]; exact p2, (fun h => by cases h), .inl p4', by
        refine rowOf_rel (c := (cs.take (i * 3) ++ (vs ++ cs.drop (i * 3))).toArray) (by rw [List.toList_toArray]; exact hboth.mono (Ren.le_put hnone)) (by rw [List.toList_toArray]; exact hones) fun k hk => ?_
        rw [List.size_toArray, List.length_append, List.length_append, List.length_take, List.length_drop, hcl, hvl] at hk
        rw [toArr_get (cs.take (i * 3) ++ (vs ++ cs.drop (i * 3))), splice_get cs vs (i * 3) k (by omega)]
        show (setRow _ _ _)[o + k]? = _
        rw [setRow_get _ _ _ _ (by rw [setRow_size]; omega), setRow_get _ _ _ _ (by rw [List.length_drop]; omega), hvl, List.length_drop, hcl]
        by_cases h1 : k < i * 3
        · rw [if_neg (by omega), if_neg (by omega), if_pos h1, hceq k (by omega)]
        · rw [if_neg h1]
          by_cases h2 : k < i * 3 + 1 * 3
          · rw [if_pos (by omega), if_pos h2]
            exact congrArg (fun j => vs[j]?) (by omega)
          · rw [if_neg (by omega), if_pos (by omega), if_neg h2, List.getElem?_drop]
            exact congrArg (fun j => cs[j]?) (by omega)⟩
    exact cpost_new hr (.slice _ _ _ _ _ ⟨Lc.b, o, Lc.sz⟩ o C (Ren.put_same _ _ _) hroom (.wide hC) (.inr ⟨rfl, hsz⟩)) q1 q2
  · have hz : ∃ z, Go.Proofs.Tryz.t138.zero = some z ∧ z.cells.size = 3 := ⟨_, (by kernel_rfl : Go.Proofs.Tryz.t138.zero = some (.agg #[.string ⟨#[]⟩, .bool false, .int .u64 0])), rfl⟩
    obtain ⟨z, hz0, hz3⟩ := hz
    refine (insert_grow Lc.b o len C i Lv.b ov 1 Cv cs vs w b2 (by omega) hlc (by omega) (by omega) hcl hvl (fun j u hj => by rw [Eng.cell_row p1]; exact hcg j u hj)
      (fun j u hj => by rw [Eng.cell_row r1]; exact hvg j u hj) ro rov Go.Proofs.Tryz.t138 z (tab0.inf 138 _ (by kernel_rfl)) hz0 (by kernel_rfl) (of_decide_eq_true (by kernel_rfl)) hz3).mono ?_
    have hge : len + 1 ≤ Go.grownCap w (len + 1) C 138 := grownCap_ge w _ _ _
    have hle : Go.grownCap w (len + 1) C 138 ≤ 9223372036854775807 := by
      have := grownCap_le_maxLen w (len + 1) C 138 (by unfold maxLen; omega)
      unfold maxLen at this; omega
    rintro e w' ⟨rfl, hw'⟩
    refine ⟨_, rfl, ?_⟩
    generalize Go.grownCap w (len + 1) C 138 = G at hw' hge hle ⊢
    generalize hROW : (cs.take (i * 3)).toArray ++ Builtin.zeroCells z.cells (len + 1 - i) ++ Builtin.zeroCells z.cells (G - (len + 1)) = ROW at hw'
    have hRsz : ROW.size = G * 3 := by
      rw [← hROW]
      simp only [Array.size_append, zeroCells_size, hz3, List.size_toArray, List.length_take, hcl]
      omega
    let R : Array Value := setRow (setRow ROW (i * 3) vs) ((i + 1) * 3) (cs.drop (i * 3))
    have hRs : R.size = G * 3 := by rw [setRow_size, setRow_size, hRsz]
    have A0 : ((w.alloc (.cells ROW 138)).drew).heap[w.heap.size]? = some (.cells ROW 138 (0, 0)) := by
      show (w.heap.push _)[w.heap.size]? = _
      simp
    have T1 := turned_setCells vs (i * 3) ROW _ A0
    have T1' : Turned w.heap.size (.cells (setRow ROW (i * 3) vs) 138 (0, 0)) ((w.alloc (.cells ROW 138)).drew) (((w.alloc (.cells ROW 138)).drew.setCells w.heap.size (i * 3) vs).drew) := ⟨T1.os, T1.tape, T1.output, T1.size, T1.at_, T1.other⟩
    have T2 := turned_setCells (cs.drop (i * 3)) ((i + 1) * 3) _ _ T1'.at_
    rw [← hw'] at T2
    have T : Turned w.heap.size (.cells R 138 (0, 0)) ((w.alloc (.cells ROW 138)).drew) w' := T1'.trans T2
    have hb : Below w.heap.size w w' := by
      refine ⟨T.os, T.tape, T.output, ?_, fun k hk => ?_⟩
      · rw [T.size]
        show w.heap.size ≤ (w.heap.push _).size
        simp
      · rw [T.other k (by omega)]
        show (w.heap.push _)[k]? = _
        rw [Array.getElem?_push, if_neg (by omega)]
    obtain ⟨d1, d2⟩ := Rel.del (fun _ => False) r0 hg hL (.refl p1)
    obtain ⟨q1, q2⟩ := d1.newAt (nm := h.next) (g := w.heap.size) (sz := R.size) (o := .cells (rowOf (old.take (i * 3) ++ (new ++ old.drop (i * 3)))) 138 false) hnone (Nat.lt_succ_self _) hb (Nat.le_refl _) T.at_
      ⟨R, (0, 0), rfl, rfl, (fun h => by cases h), .inl rfl, by
        refine rowOf_rel (c := (cs.take (i * 3) ++ (vs ++ cs.drop (i * 3))).toArray) (by rw [List.toList_toArray]; exact hboth.mono (Ren.le_put hnone)) (by rw [List.toList_toArray]; exact hones) fun k hk => ?_
        rw [List.size_toArray, List.length_append, List.length_append, List.length_take, List.length_drop, hcl, hvl] at hk
        rw [toArr_get (cs.take (i * 3) ++ (vs ++ cs.drop (i * 3))), splice_get cs vs (i * 3) k (by omega), Nat.zero_add]
        show (setRow _ _ _)[k]? = _
        rw [setRow_get _ _ _ _ (by rw [setRow_size, hRsz, List.length_drop]; omega), setRow_get _ _ _ _ (by omega), hvl, List.length_drop, hcl]
        by_cases h1 : k < i * 3
        · rw [if_neg (by omega), if_neg (by omega), if_pos h1, ← hROW, Array.append_assoc, Array.getElem?_append_left (by rw [List.size_toArray, List.length_take]; omega), toArr_get (cs.take (i * 3)), List.getElem?_take, if_pos h1]
        · rw [if_neg h1]
          by_cases h2 : k < i * 3 + 1 * 3
          · rw [if_neg (by omega), if_pos (by omega), if_pos h2]
          · rw [if_pos (by omega), if_neg h2, List.getElem?_drop]
            exact congrArg (fun j => cs[j]?) (by omega)⟩
    exact cpost_new hr (.slice _ _ _ _ _ ⟨w.heap.size, 0, R.size⟩ 0 G (Ren.put_same _ _ _) hge (.wide hle) (.inr ⟨rfl, by simp only; omega⟩)) q1 (d2.trans q2 (fun _ h => h.elim) (fun _ h => h))

/-- slices.Insert of entries: within, by its contract; at the end, its own run. -/
noncomputable def insertI (args : List EV) (h : EH) : Option (EV × EH) :=
  Option.rec (callF (withI kitI) (execF (withI kitI) 1000) 97 args h) (fun r => some r) (insW args h)
theorem insertI_ok : IntrOk Go.Proofs.Tryz.prog 97 insertI := by
  intro args h v h' hx ρ w args' hr ha
  have hx' : (Option.rec (callF (withI kitI) (execF (withI kitI) 1000) 97 args h) (fun r => some r) (insW args h) : Option (EV × EH)) = some (v, h') := hx
  cases hi : insW args h with
  | none =>
    rw [hi] at hx'
    simp only at hx'
    rw [callF_eq, execF_eq] at hx'
    exact engine_call okK 1000 97 args h v h' hx' ρ w args' hr ha
  | some r =>
    rw [hi] at hx'
    cases hx'
    exact insW_ok args h v h' hi ρ w args' hr ha

/-- The library's functions, slices.Insert with them. -/
noncomputable def kitJ (f : FuncId) : Option (List EV → EH → Option (EV × EH)) := cond (Nat.beq f 97) (some insertI) (kitI f)
theorem okJ : FnOk Go.Proofs.Tryz.prog (withI kitJ) := okI fun g r h => by
  rcases okOpt h with ⟨b, e⟩ | ⟨_, e⟩
  · cases e
    obtain rfl := Nat.eq_of_beq_eq_true b
    exact insertI_ok
  · exact kit_ok g r e
end Go.Eng

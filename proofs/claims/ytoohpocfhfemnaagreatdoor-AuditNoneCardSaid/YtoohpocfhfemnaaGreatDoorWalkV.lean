/- A part of the proof of AuditNone: the runs of the document's example and of the law's body, and facts of the row. Conditions: none. -/
import Derived.Test.YtoohpocfhfemnaaGreatDoorWalkU
import Derived.OpenShut
import Derived.ChangeSlices
import Derived.ProofKit
namespace Go.Proofs
open Go.Shelf Go.RowKit Go.Lib Go.ChangeShapes Go.WideShapes Go.ChangeAt
variable {H : Type} {enc : TypeId × Value → H}
set_option maxRecDepth 1000000
theorem cells5 : Tryz.prog.cellsOf 5 = 1 := by kernel_rfl

theorem bytes_in {W : World} {base : Nat} {v1 : Value} {d1 : DataW H} {p1 : List MemPlace} (hval : Value.okWide Tryz.prog W .any base 22 v1) (h1 : DataW.Trod enc Tryz.prog W 0 (fun _ => true) true 22 v1 d1 p1) :
    ∃ l : List UInt8, BytesOff W W.heap.size (fun _ => True) v1 l := by
  obtain ⟨a1, len, cap, rfl⟩ := okWide_slice u22 hval
  obtain ⟨fuel, hf⟩ := h1
  rcases open_ints u22 u5 cells5 hf with ⟨hcs, hx⟩ | ⟨a, len', cap', zs, hcs, _, hl, hm, hz, hx, hcell, hwz⟩
  · simp [Value.cells] at hcs
    obtain ⟨rfl, rfl, rfl⟩ := hcs
    exact ⟨[], .inr ⟨rfl, rfl⟩⟩
  · simp [Value.cells] at hcs
    obtain ⟨rfl, rfl, rfl⟩ := hcs
    simp only [if_true] at hz
    have hok : W.has Tryz.prog .any base a 5 cap := by
      have h2 : Cell.okWide Tryz.prog W .any base 22 (.slice (some a) len cap) := by
        unfold Value.okWide at hval
        rw [u22] at hval
        exact hval
      unfold Cell.okWide at h2
      rw [u22] at h2
      have h3 : Cell.ok Tryz.prog W .any base 22 (.slice (some a) len cap) := h2
      unfold Cell.ok at h3
      rw [u22] at h3
      exact h3.2.2
    obtain ⟨_, hsp, row, cells, hsh, _⟩ := hok
    obtain ⟨ab, ao, spot⟩ := a
    simp only at hsp hsh
    subst hsp
    have hlt : ab < W.heap.size := by
      rcases Nat.lt_or_ge ab W.heap.size with h | h
      · exact h
      · unfold World.shape? at hsh
        rw [Array.getElem?_eq_none h] at hsh
        cases hsh
    have hlen : ((zs.take len).map fun n => UInt8.ofNat n.toNat).length = len := by simp; omega
    refine ⟨(zs.take len).map fun n => UInt8.ofNat n.toNat, .inl ⟨ab, ao, cap, by rw [hlen], by rw [hlen]; exact hl, hm, ⟨trivial, hlt⟩, by omega, fun i x hx => ?_⟩⟩
    have hi : i < len := by have := (List.getElem?_eq_some_iff.1 hx).1; omega
    have hcj := hcell i (by omega)
    rw [Addr.add_lit] at hcj
    rw [hcj]
    have hb := range_u8 hwz i
    rw [List.getElem?_map, List.getElem?_take, if_pos hi, List.getElem?_eq_getElem (show i < zs.length by omega)] at hx
    have e : zs[i]?.getD 0 = zs[i]'(by omega) := by simp [List.getElem?_eq_getElem (show i < zs.length by omega)]
    rw [List.getD_eq_getElem?_getD, e]
    rw [e] at hb
    simp only [Option.map_some, Option.some.injEq] at hx
    subst hx
    congr 2
    simp only [UInt8.toNat_ofNat']
    omega
theorem law_in (v : Value) (w : World) (h : ∃ l : List UInt8, BytesOff w w.heap.size (fun _ => True) v l) : Calls Tryz.prog 3 #[v] w fun e w' => e = .returned (.bool true) ∧ Below w.heap.size w w' := by
  obtain ⟨l, hl⟩ := h
  exact (law_all v l w hl).mono fun e w' hq => ⟨hq.1, hq.2.toBelow (Nat.le_refl _) (fun _ _ h => h.elim)⟩
end Go.Proofs

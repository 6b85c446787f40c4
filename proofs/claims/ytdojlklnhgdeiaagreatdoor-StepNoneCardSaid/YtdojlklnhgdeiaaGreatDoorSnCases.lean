/- A part of the proof of StepNone: the runs of the document's example and of the law's body, and facts of the row. Conditions: none. -/
import Derived.Test.YtdojlklnhgdeiaaGreatDoorSnKit
namespace Go.Proofs
open Go

theorem spotD_cases (s : ByteArray) : (spotD s).1 = 0 ∨ (spotD s).1 = 3 ∨ (spotD s).1 = 140 := by
  unfold spotD
  split
  · exact .inr (.inr rfl)
  · split
    · exact .inr (.inl rfl)
    · split
      · exact .inr (.inr rfl)
      · exact .inl rfl
theorem pathFrom_cases : ∀ (l : List ByteArray) (i a : Nat), (pathFrom l i a).1 = 0 ∨ (pathFrom l i a).1 = 3 ∨ (pathFrom l i a).1 = 140
  | [], _, _ => .inl rfl
  | n :: l, i, a => by
    unfold pathFrom
    split
    · exact .inr (.inl rfl)
    · split
      · exact spotD_cases n
      · exact pathFrom_cases l _ _
theorem pathD_cases (s : ByteArray) : (pathD s).1 = 0 ∨ (pathD s).1 = 3 ∨ (pathD s).1 = 140 := by
  unfold pathD
  split
  · exact .inr (.inl rfl)
  · exact pathFrom_cases _ _ _
theorem commitD_cases (a t : ByteArray) : commitD a t = 0 ∨ commitD a t = 3 ∨ commitD a t = 162 := by
  unfold commitD
  split
  · exact .inr (.inl rfl)
  · split
    · exact .inr (.inr rfl)
    · split
      · exact .inr (.inl rfl)
      · split
        · exact .inr (.inr rfl)
        · exact .inl rfl
end Go.Proofs
namespace Go.Eng
open Go Go.Proofs
set_option maxRecDepth 1000000
noncomputable def goB (p1 p2 nm ck : Int) (e0 e1 e01 : Bool) : Bool := okRet 6 true ((execF (tbS p1 p2 nm ck e0 e1 e01) 100000 : Ex) false (tail 5 (bodyOf Tryz.f3)) ⟨190, litF frmB⟩ ⟨litH litA, 1758⟩)
theorem b_0 : goB 0 0 0 0 false false false = true := by kernel_rfl
theorem b_3 : goB 0 0 0 3 false false false = true := by kernel_rfl
theorem b_162 : goB 0 0 0 162 false false false = true := by kernel_rfl
theorem c_0 (e1 e01 : Bool) : goB 0 0 2 0 true e1 e01 = true := by kernel_rfl
theorem c_3 (e1 e01 : Bool) : goB 0 0 2 3 true e1 e01 = true := by kernel_rfl
theorem c_162 (e1 e01 : Bool) : goB 0 0 2 162 true e1 e01 = true := by kernel_rfl
theorem d_0 (e01 : Bool) : goB 0 0 2 0 false true e01 = true := by kernel_rfl
theorem d_3 (e01 : Bool) : goB 0 0 2 3 false true e01 = true := by kernel_rfl
theorem d_162 (e01 : Bool) : goB 0 0 2 162 false true e01 = true := by kernel_rfl
theorem f_0 : goB 0 0 2 0 false false true = true := by kernel_rfl
theorem f_3 : goB 0 0 2 3 false false true = true := by kernel_rfl
theorem f_162 : goB 0 0 2 162 false false true = true := by kernel_rfl
theorem g_0 (p2 : Int) (e0 e1 e01 : Bool) : goB 3 p2 3 0 e0 e1 e01 = true := by kernel_rfl
theorem g_3 (p2 : Int) (e0 e1 e01 : Bool) : goB 3 p2 3 3 e0 e1 e01 = true := by kernel_rfl
theorem g_162 (p2 : Int) (e0 e1 e01 : Bool) : goB 3 p2 3 162 e0 e1 e01 = true := by kernel_rfl
theorem h_0 (p2 : Int) (e0 e1 e01 : Bool) : goB 140 p2 140 0 e0 e1 e01 = true := by kernel_rfl
theorem h_3 (p2 : Int) (e0 e1 e01 : Bool) : goB 140 p2 140 3 e0 e1 e01 = true := by kernel_rfl
theorem h_162 (p2 : Int) (e0 e1 e01 : Bool) : goB 140 p2 140 162 e0 e1 e01 = true := by kernel_rfl
theorem i_0 (e0 e1 e01 : Bool) : goB 0 3 3 0 e0 e1 e01 = true := by kernel_rfl
theorem i_3 (e0 e1 e01 : Bool) : goB 0 3 3 3 e0 e1 e01 = true := by kernel_rfl
theorem i_162 (e0 e1 e01 : Bool) : goB 0 3 3 162 e0 e1 e01 = true := by kernel_rfl
theorem j_0 (e0 e1 e01 : Bool) : goB 0 140 140 0 e0 e1 e01 = true := by kernel_rfl
theorem j_3 (e0 e1 e01 : Bool) : goB 0 140 140 3 e0 e1 e01 = true := by kernel_rfl
theorem j_162 (e0 e1 e01 : Bool) : goB 0 140 140 162 e0 e1 e01 = true := by kernel_rfl

theorem list_nil [Syms] {s : ByteArray} : strEq (ofBytes s) [] = decide (s.toList = []) := by
  rw [strEq_eq, toList_data]
  unfold ofBytes
  by_cases h : s.data.toList = []
  · simp [h]
  · simp [h]
theorem list_same [Syms] {s t : ByteArray} : strEq (ofBytes s) (ofBytes t) = decide (t.toList = s.toList) := by
  rw [strEq_eq, toList_data, toList_data]
  by_cases h : s.data.toList = t.data.toList
  · rw [decide_eq_true (show t.data.toList = s.data.toList from h.symm)]; simp [ofBytes, h]
  · rw [decide_eq_false (show ¬ t.data.toList = s.data.toList from fun e => h e.symm), decide_eq_false (fun e => h (ofBytes_inj e))]

/-- The rest of the law is true, whatever its texts. -/
theorem goB_all [Syms] (H S A T : ByteArray) : goB (pathD H).1 (pathD S).1 (namesD H S) (commitD A T) (strEq (ofBytes H) []) (strEq (ofBytes S) []) (strEq (ofBytes H) (ofBytes S)) = true := by
  rw [list_nil, list_nil, list_same]
  generalize hc : commitD A T = ck
  have hck : ck = 0 ∨ ck = 3 ∨ ck = 162 := hc ▸ commitD_cases A T
  clear hc
  unfold namesD
  rcases pathD_cases H with h | h | h
  · rcases pathD_cases S with k | k | k
    · rw [h, k]
      simp only [ne_eq, not_true_eq_false, if_false, Int.ofNat_eq_natCast, Int.cast_ofNat_Int]
      by_cases z1 : H.toList = []
      · rw [if_pos z1, decide_eq_true z1]
        rcases hck with rfl | rfl | rfl
        · exact c_0 _ _
        · exact c_3 _ _
        · exact c_162 _ _
      · rw [if_neg z1, decide_eq_false z1]
        by_cases z2 : S.toList = []
        · rw [if_pos z2, decide_eq_true z2]
          rcases hck with rfl | rfl | rfl
          · exact d_0 _
          · exact d_3 _
          · exact d_162 _
        · rw [if_neg z2, decide_eq_false z2]
          by_cases z3 : S.toList = H.toList
          · rw [if_pos z3, decide_eq_true z3]
            rcases hck with rfl | rfl | rfl
            · exact f_0
            · exact f_3
            · exact f_162
          · rw [if_neg z3, decide_eq_false z3]
            rcases hck with rfl | rfl | rfl
            · exact b_0
            · exact b_3
            · exact b_162
    · rw [h, k]
      rcases hck with rfl | rfl | rfl
      · exact i_0 _ _ _
      · exact i_3 _ _ _
      · exact i_162 _ _ _
    · rw [h, k]
      rcases hck with rfl | rfl | rfl
      · exact j_0 _ _ _
      · exact j_3 _ _ _
      · exact j_162 _ _ _
  · rw [h]
    rcases hck with rfl | rfl | rfl
    · exact g_0 _ _ _ _
    · exact g_3 _ _ _ _
    · exact g_162 _ _ _ _
  · rw [h]
    rcases hck with rfl | rfl | rfl
    · exact h_0 _ _ _ _
    · exact h_3 _ _ _ _
    · exact h_162 _ _ _ _
end Go.Eng

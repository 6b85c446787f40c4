/- A part of the proof of AuditNone: the runs of the document's example and of the law's body, and facts of the row. Conditions: none. -/
import Derived.Test.YtoohpocfhfemnaaGreatDoorWalkD
namespace Go.Proofs
open Go.RowKit Go.Lib

theorem row_cell (w : World) (cs : Array Value) (t : TypeId) (k : Nat) (v : Value) (h : cs[k]? = some v) : (w.alloc (.cells cs t)).cell? ⟨w.heap.size, k, none⟩ = some v := by
  have hb : (w.alloc (.cells cs t)).heap[w.heap.size]? = some (.cells cs t) := by
    show (w.heap.push _)[w.heap.size]? = _
    simp
  unfold World.cell?
  rw [hb]
  exact h

/-- A slice that holds these numbers. -/
def NumsAt (w : World) (v : Value) (l : List Int) : Prop :=
  (∃ b o c, v = .slice (some ⟨b, o, none⟩) l.length c ∧ l.length ≤ c ∧ b < w.heap.size ∧ ∀ i x, l[i]? = some x → w.cell? ⟨b, o + i, none⟩ = some (.int .u64 x)) ∨ (v = .slice none 0 0 ∧ l = [])
theorem NumsAt.below {w w' : World} {v : Value} {l : List Int} (h : NumsAt w v l) (hb : Below w.heap.size w w') : NumsAt w' v l := by
  rcases h with ⟨b, o, c, h1, h2, h3, h4⟩ | h
  · exact .inl ⟨b, o, c, h1, h2, Nat.lt_of_lt_of_le h3 hb.size, fun i x hx => (hb.cell (p := ⟨b, o + i, none⟩) h3).trans (h4 i x hx)⟩
  · exact .inr h

/-- Where a number stands. -/
def idxD (y : Int) : List Int → Nat → Int
  | [], _ => -1
  | x :: l, k => if y = x then (k : Int) else idxD y l (k + 1)

set_option maxRecDepth 1000000 in
set_option maxHeartbeats 2000000 in
theorem index_any (l : List Int) (y : Int) (v : Value) (w : World) (hv : NumsAt w v l) (hlen : l.length ≤ 1000000000) : Calls Tryz.prog 180 #[v, .int .u64 y] w fun e w' => e = .returned (.int .i64 (idxD y l 0)) ∧ w' = w := by
  rcases hv with ⟨b, o, c, rfl, hc, hb, hl⟩ | ⟨rfl, rfl⟩
  · go_enter Tryz.func180, Tryz.ntmps180
    go_wp2
    go_loopw [5, 8] (fun _ i wr => ∃ k : Nat, i = .int .i64 (k : Int) ∧ idxD y (l.drop k) k = idxD y l 0 ∧ k ≤ l.length ∧ wr = w) (fun _ i _ => l.length - (RowKit.intOf i).toNat)
    case atStart => exact ⟨0, rfl, rfl, by omega, rfl⟩
    case round =>
      obtain ⟨k, rfl, hn, hk, rfl⟩ := hrel
      by_cases hlt : k < l.length
      · obtain ⟨x, hx⟩ : ∃ x, l[k]? = some x := ⟨_, List.getElem?_eq_getElem hlt⟩
        have hcx := hl k x hx
        have hlt' : (k : Int) < (l.length : Int) := by omega
        have hw : wrap64 ((k : Int) + 1) = ((k + 1 : Nat) : Int) := by simp only [wrap64]; omega
        have hxk : x = l[k] := by rw [List.getElem?_eq_getElem hlt] at hx; exact (Option.some.inj hx).symm
        subst hxk
        rw [List.drop_eq_getElem_cons hlt, idxD] at hn
        by_cases hy : y = l[k]
        · rw [if_pos hy] at hn
          have hy2 : (y == l[k]) = true := by simpa using hy
          have HN : Hid ((k : Int) = idxD y l 0) := hn
          clear hn hx hy
          go_wp2
          go_ret
          exact ⟨by rw [← HN.out]; rfl, rfl⟩
        · rw [if_neg hy] at hn
          have hy2 : (y == l[k]) = false := by simpa using hy
          go_wp2
          exact ⟨⟨k + 1, by first | rfl | simp, hn, by omega, trivial⟩, by simp [RowKit.intOf]; omega⟩
      · have hge : ¬ ((k : Int) < (l.length : Int)) := by omega
        obtain rfl : k = l.length := by omega
        simp only [List.drop_length] at hn
        go_wp2
        go_ret
        exact ⟨by rw [← hn]; rfl, rfl⟩
  · go_enter Tryz.func180, Tryz.ntmps180
    go_wp2
    refine wp_loop_once ?_
    go_wp2
    go_ret
    exact ⟨rfl, rfl⟩

theorem idxD_pos (y : Int) : ∀ (l : List Int) (k : Nat), decide (0 ≤ idxD y l k) = l.contains y
  | [], k => rfl
  | x :: l, k => by
    rw [idxD, List.contains_cons]
    by_cases h : y = x
    · subst h
      simp
    · have : (y == x) = false := by simpa using h
      rw [if_neg h, this, Bool.false_or]
      exact idxD_pos y l (k + 1)

set_option maxRecDepth 1000000 in
theorem contains_any (l : List Int) (y : Int) (v : Value) (w : World) (hv : NumsAt w v l) (hlen : l.length ≤ 1000000000) : Calls Tryz.prog 126 #[v, .int .u64 y] w fun e w' => e = .returned (.bool (l.contains y)) ∧ w' = w := by
  go_enter Tryz.func126, Tryz.ntmps126
  go_wp2_with (fail)
  refine (index_any l y v w hv hlen).mono ?_
  rintro e w' ⟨rfl, rfl⟩
  go_wp2
  go_ret
  refine ⟨?_, rfl⟩
  rw [← idxD_pos y l 0]
  rfl

/-- What is wrong with a commit's texts. -/
def commitD (a t : ByteArray) : Int :=
  if 64 < a.size then 3 else if rightD a (a.size + 1) 0 32 0 = false then 162 else if 1024 < t.size then 3 else if rightD t (t.size + 1) 0 32 0 = false then 162 else 0
/-- What is wrong with a commit. -/
def commitF (tr : Int) (ps : List Int) (a t : ByteArray) : Int :=
  if tr = 0 then 2 else if 8 < ps.length then 3 else if ps.contains 0 = true then 2 else commitD a t

set_option maxRecDepth 1000000 in
set_option maxHeartbeats 4000000 in
theorem commit_any (tr : Int) (ps : List Int) (vp : Value) (a t : ByteArray) (d : Int) (w : World) (hp : NumsAt w vp ps) (hlen : ps.length ≤ 1000000000) :
    Calls Tryz.prog 90 #[.agg #[.int .u64 tr, vp, .string a, .int .i64 d, .string t]] w fun e w' => e = .returned (.int .i64 (commitF tr ps a t)) ∧ Below w.heap.size w w' := by
  obtain ⟨av, cv, hvp⟩ : ∃ av cv, vp = .slice av ps.length cv := by
    rcases hp with ⟨b, o, c, h1, _⟩ | ⟨h1, h2⟩
    · exact ⟨_, _, h1⟩
    · rw [h2]; exact ⟨_, _, h1⟩
  have CF : Hid (commitF tr ps a t = if tr = 0 then 2 else if 8 < ps.length then 3 else if ps.contains 0 = true then 2 else commitD a t) := rfl
  have CD : Hid (commitD a t = if 64 < a.size then 3 else if rightD a (a.size + 1) 0 32 0 = false then 162 else if 1024 < t.size then 3 else if rightD t (t.size + 1) 0 32 0 = false then 162 else 0) := rfl
  have HP : Hid (NumsAt w vp ps) := hp
  subst hvp
  clear hp
  by_cases h0 : tr = 0
  · have CE := CF.out
    rw [if_pos h0] at CE
    have CE2 : Hid (commitF tr ps a t = 2) := CE
    clear CE CF CD
    subst h0
    go_enter Tryz.func90, Tryz.ntmps90
    go_wp2_with (fail)
    go_ret
    exact ⟨by rw [CE2.out]; rfl, (Below.refl _ _).alloc (Nat.le_refl _) _⟩
  have CE := CF.out
  rw [if_neg h0] at CE
  have h0' : (tr == 0) = false := by simpa using h0
  by_cases h8 : 8 < ps.length
  · rw [if_pos h8] at CE
    have CE2 : Hid (commitF tr ps a t = 3) := CE
    have h8' : (8 : Int) < (ps.length : Int) := by omega
    clear CE CF CD
    go_enter Tryz.func90, Tryz.ntmps90
    go_wp2_with (fail)
    go_ret
    exact ⟨by rw [CE2.out]; rfl, (Below.refl _ _).alloc (Nat.le_refl _) _⟩
  rw [if_neg h8] at CE
  have h8' : ¬ (8 : Int) < (ps.length : Int) := by omega
  have CE2 : Hid (commitF tr ps a t = if ps.contains 0 = true then 2 else commitD a t) := CE
  clear CE CF
  go_enter Tryz.func90, Tryz.ntmps90
  go_wp2_with (fail)
  refine (contains_any ps 0 _ _ (HP.out.below ((Below.refl _ _).alloc (Nat.le_refl _) _)) hlen).mono ?_
  rintro e w' ⟨rfl, rfl⟩
  cases hct : ps.contains 0 with
  | true =>
    go_wp2_with (fail)
    go_ret
    refine ⟨?_, (Below.refl _ _).alloc (Nat.le_refl _) _⟩
    rw [CE2.out, if_pos hct]
    rfl
  | false =>
    have CE3 : Hid (commitF tr ps a t = commitD a t) := by rw [CE2.out, if_neg (by rw [hct]; decide)]; rfl
    by_cases ha : 64 < a.size
    · have ha' : (64 : Int) < (a.size : Int) := by omega
      go_wp2_with (fail)
      go_ret
      refine ⟨?_, (Below.refl _ _).alloc (Nat.le_refl _) _⟩
      rw [CE3.out, CD.out, if_pos ha]
      rfl
    · have ha' : ¬ ((64 : Int) < (a.size : Int)) := by omega
      generalize hW1 : w.alloc (Obj.cells #[Value.int IntKind.u64 tr, Value.slice av ps.length cv, Value.string a, Value.int IntKind.i64 d, Value.string t] 140) = W1
      have hB : Below w.heap.size w W1 := by rw [← hW1]; exact (Below.refl _ _).alloc (Nat.le_refl _) _
      have hs : w.heap.size < W1.heap.size := by rw [← hW1]; show _ < (w.heap.push _).size; simp
      have c2 : W1.cell? ⟨w.heap.size, 2, none⟩ = some (.string a) := by rw [← hW1]; exact row_cell _ _ _ 2 _ rfl
      have c4 : W1.cell? ⟨w.heap.size, 4, none⟩ = some (.string t) := by rw [← hW1]; exact row_cell _ _ _ 4 _ rfl
      clear hW1
      go_wp2_with (fail)
      refine (right_any a W1 (by omega)).mono ?_
      rintro e W2 ⟨rfl, hB2⟩
      have c4' : W2.cell? ⟨w.heap.size, 4, none⟩ = some (.string t) := (hB2.cell (p := ⟨w.heap.size, 4, none⟩) hs).trans c4
      have hB3 : Below w.heap.size w W2 := hB.trans (hB2.mono (by omega))
      have hs2 : w.heap.size < W2.heap.size := Nat.lt_of_lt_of_le hs hB2.size
      clear c2 c4 hB hB2 hs
      cases hr : rightD a (a.size + 1) 0 32 0 with
      | false =>
        go_wp2_with (fail)
        go_ret
        refine ⟨?_, hB3⟩
        rw [CE3.out, CD.out, if_neg (by omega), if_pos hr]
        rfl
      | true =>
        by_cases ht : 1024 < t.size
        · have ht' : (1024 : Int) < (t.size : Int) := by omega
          go_wp2_with (fail)
          go_ret
          refine ⟨?_, hB3⟩
          rw [CE3.out, CD.out, if_neg (by omega), if_neg (by rw [hr]; decide), if_pos ht]
          rfl
        · have ht' : ¬ ((1024 : Int) < (t.size : Int)) := by omega
          go_wp2_with (fail)
          refine (right_any t W2 (by omega)).mono ?_
          rintro e W3 ⟨rfl, hB4⟩
          have hB5 : Below w.heap.size w W3 := hB3.trans (hB4.mono (by omega))
          clear hB3 hB4 c4'
          cases hr2 : rightD t (t.size + 1) 0 32 0 with
          | false =>
            go_wp2_with (fail)
            go_ret
            refine ⟨?_, hB5⟩
            rw [CE3.out, CD.out, if_neg (by omega), if_neg (by rw [hr]; decide), if_neg (by omega), if_pos hr2]
            rfl
          | true =>
            go_wp2_with (fail)
            go_ret
            refine ⟨?_, hB5⟩
            rw [CE3.out, CD.out, if_neg (by omega), if_neg (by rw [hr]; decide), if_neg (by omega), if_neg (by rw [hr2]; decide)]
            rfl
end Go.Proofs

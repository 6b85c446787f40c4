/- A part of the proof of CarveSides: the runs of the document's example and of the law's body, and facts of the row. Conditions: none. -/
import Derived.Test.YtficpbnmmchpeaaGreatDoorInsert
import Derived.Test.YtficpbnmmchpeaaGreatDoorEngM
import Derived.Test.YtficpbnmmchpeaaGreatDoorEngN
import Derived.Test.YtficpbnmmchpeaaGreatDoorWalkD
import Derived.Test.YtficpbnmmchpeaaGreatDoorWalkE
namespace Go.Eng
open Go Go.RowKit Go.Proofs Go.Lib
set_option maxRecDepth 1000000

/-- Is it a byte? -/
noncomputable def byteE (e : EV) : Bool :=
  match e with
  | .int .u8 x => decide (0 ≤ x) && decide (x < 256)
  | .sym k => Nat.ble 1000 k && Nat.blt k 3000
  | _ => false
noncomputable def symE (e : EV) : Bool :=
  match e with
  | .sym _ => true
  | _ => false
def symL : Nat → Nat → List EV
  | _, 0 => []
  | a, n + 1 => .sym a :: symL (a + 1) n
theorem symL_len : ∀ (a n : Nat), (symL a n).length = n
  | _, 0 => rfl
  | a, n + 1 => by simp [symL, symL_len (a + 1) n]
theorem symL_get : ∀ (a n i : Nat), i < n → (symL a n)[i]? = some (.sym (a + i))
  | _, 0, _, h => by omega
  | a, n + 1, 0, _ => rfl
  | a, n + 1, i + 1, h => by
    have := symL_get (a + 1) n i (by omega)
    simp only [symL, List.getElem?_cons_succ, this]
    congr 2
    omega

section
variable [Syms]
variable {P : Program} {ρ : Ren} {h : EH} {w w' : World}

/-- The values without a face of these numbers are bytes. -/
def BytesSym : Prop := ∀ k, 1000 ≤ k → k < 3000 → ∃ x : UInt8, Syms.val k = .int .u8 (x.toNat : Int)

theorem byte_row (hB : BytesSym) : ∀ {old : List EV} {vs : List Value}, VRels ρ old vs → old.all byteE = true → ∃ l : List UInt8, vs = l.map fun x => Value.int .u8 (x.toNat : Int)
  | [], [], _, _ => ⟨[], rfl⟩
  | e :: es, v :: vs, .cons _ _ _ _ hv hs, hall => by
    simp only [List.all_cons, Bool.and_eq_true] at hall
    obtain ⟨l, hl⟩ := byte_row hB hs hall.2
    have : ∃ x : UInt8, v = .int .u8 (x.toNat : Int) := by
      have hb := hall.1
      unfold byteE at hb
      split at hb
      · rename_i x
        simp only [Bool.and_eq_true, decide_eq_true_eq] at hb
        obtain ⟨b1, b2⟩ := hb
        cases hv
        have b3 : x.toNat < UInt8.size := by simp only [UInt8.size]; omega
        exact ⟨UInt8.ofNat x.toNat, by rw [UInt8.toNat_ofNat_of_lt' b3, Int.toNat_of_nonneg b1]⟩
      · rename_i k
        simp only [Bool.and_eq_true] at hb
        obtain ⟨x, hx⟩ := hB k (Nat.le_of_ble_eq_true hb.1) (Nat.le_of_ble_eq_true hb.2)
        cases hv with
        | sym _ _ h1 _ => exact ⟨x, by rw [← h1, hx]⟩
      · cases hb
    obtain ⟨x, rfl⟩ := this
    exact ⟨x :: l, by rw [hl]; rfl⟩

/-- A row of one's own, under the heap's next name. -/
theorem new_own {n : Nat} {v' : Value} {xs : List Value} {es : List EV} (hr : Rel P ρ h w) (hown : w'.ownsRow w.heap.size 5 1 v' n xs) (hne : v' ≠ .slice none 0 0) (hb : Below w.heap.size w w') (hes : VRels ρ es xs) (h1 : ∀ u ∈ xs, u.oneCell' = true) :
    CPost P ρ h w (.slice h.next 0 n none 1) ((⟨h.objs, h.next + 1⟩ : EH).set h.next (.cells (rowOf es) 5 false)) v' w' := by
  obtain ⟨hl, h2⟩ := hown
  rcases h2 with ⟨rfl, _⟩ | ⟨g, cap, cur, rfl, hg, hh, hc, hm, hs, ht⟩
  · exact absurd rfl hne
  obtain ⟨r0, x0⟩ := hr.reserve (fun _ => False) (k := h.next + 1) (Nat.le_succ _)
  have hnone := hr.fresh (n := h.next) (Nat.le_refl _)
  have hcs : cur.size = cap := by simpa using hs
  have hct : cur.toList.take n = xs := by simpa using ht
  obtain ⟨q1, q2⟩ := r0.newAt (nm := h.next) (g := g) (sz := cur.size) (o := .cells (rowOf es) 5 false) hnone (Nat.lt_succ_self _) hb hg hh
    ⟨cur, (0, 0), rfl, rfl, (fun h => by cases h), .inl rfl, fun k ev hk => by
      obtain ⟨v, hv, hr2⟩ := (hes.mono (Ren.le_put (L := ⟨g, 0, cur.size⟩) hnone)).get (rowOf_get hk)
      refine ⟨v, ?_, hr2, h1 v (List.mem_of_getElem? hv)⟩
      have hkn : k < n := by
        have := (List.getElem?_eq_some_iff.1 hv).1
        have : xs.length = n := by simpa using hl
        omega
      rw [← hct, List.getElem?_take_of_lt hkn, Array.getElem?_toList] at hv
      rw [Nat.zero_add]
      exact hv⟩
  exact cpost_new hr (.slice _ _ _ _ _ ⟨g, 0, cur.size⟩ 0 cap (Ren.put_same _ _ _) hc (.wide (by unfold maxLen at hm; omega)) (.inr ⟨rfl, by simp only; omega⟩)) q1 q2
end
end Go.Eng

namespace Go.Eng
open Go Go.RowKit Go.Proofs Go.Lib
set_option maxRecDepth 1000000

/-- A function's own run. -/
noncomputable def ownI (g : FuncId) (args : List EV) (h : EH) : Option (EV × EH) := callF (withI kitJ) (execF (withI kitJ) 1000) g args h
noncomputable def rowI (h : EH) (n : Nat) (es : List EV) : EV × EH := (.slice h.next 0 n none 1, (⟨h.objs, h.next + 1⟩ : EH).set h.next (.cells (rowOf es) 5 false))

noncomputable def putTextI (n : Nat) (args : List EV) (h : EH) : Option (EV × EH) :=
  match args with
  | [.nilSlice, .sym 0] => some (rowI h (ulen n + n) ((uintV n).map (EV.int .u8) ++ symL 1000 n))
  | _ => ownI 24 args h
noncomputable def putWordI (args : List EV) (h : EH) : Option (EV × EH) :=
  match args with
  | [.slice m off len _ 1, .sym 1] => match h.get m with
    | some (.cells c _ _) => match readFrom c off len with
      | some old => cond (old.all byteE && (Nat.blt 0 len && Nat.ble len 100000)) (some (rowI h (len + 8) (old ++ symL 2000 8))) none
      | none => none
    | _ => none
  | _ => ownI 23 args h
noncomputable def recSym (args : List EV) (h : EH) : Option (EV × EH) :=
  match args with
  | [.slice m off len _ 1] => match h.get m with
    | some (.cells c _ _) => match readFrom c off len with
      | some old => cond (old.all byteE && (old.any symE && Nat.blt len 16000)) (some (rowI h (ulen len + len + 8) (List.replicate (ulen len + len + 8) .any))) none
      | none => none
    | _ => none
  | _ => none
noncomputable def recordI (args : List EV) (h : EH) : Option (EV × EH) := Option.rec (ownI 54 args h) (fun r => some r) (recSym args h)
noncomputable def pathI (pe : Int) (args : List EV) (h : EH) : Option (EV × EH) :=
  match args with
  | [.sym 0] => some (.agg [.int .i64 pe, .any], h)
  | _ => ownI 28 args h

variable [Syms]

theorem ownI_ok (g : FuncId) : ∀ (args : List EV) (h : EH) (v : EV) (h' : EH), ownI g args h = some (v, h') → ∀ (ρ : Ren) (w : World) (args' : Array Value), Rel Tryz.prog ρ h w → VRels ρ args args'.toList → CallOk Tryz.prog g args' w (CPost Tryz.prog ρ h w v h') := by
  intro args h v h' hx ρ w args' hr ha
  unfold ownI at hx
  rw [callF_eq, execF_eq] at hx
  exact engine_call okJ 1000 g args h v h' hx ρ w args' hr ha

/-- What is told of the values without a face. -/
structure SymsAt (S : ByteArray) (i : Int) : Prop where
  name : Syms.val 0 = .string S
  id : Syms.val 1 = .int .u64 (i : Int)
  text : ∀ (k : Nat) (b : UInt8), k < 1000 → S.data.toList[k]? = some b → Syms.val (1000 + k) = .int .u8 (b.toNat : Int)
  word : ∀ (k : Nat) (x : Int), (wordV (i : Int))[k]? = some x → Syms.val (2000 + k) = .int .u8 x
  bytes : BytesSym

theorem sym_row {a : Nat} : ∀ {n : Nat} {xs : List Int}, xs.length = n → (∀ (k : Nat) (x : Int), xs[k]? = some x → Syms.val (a + k) = .int .u8 x) → ∀ ρ, VRels ρ (symL a n) (ints xs) := by
  intro n
  induction n generalizing a with
  | zero => intro xs h _ ρ; obtain rfl := List.eq_nil_of_length_eq_zero h; exact .nil
  | succ n ih =>
    intro xs h hv ρ
    match xs, h with
    | x :: xs, h =>
      refine .cons _ _ _ _ (.sym _ _ (hv 0 x rfl) rfl) (ih (a := a + 1) (by simpa using h) (fun k y hy => ?_) ρ)
      have := hv (k + 1) y (by simpa using hy)
      rwa [show a + 1 + k = a + (k + 1) by omega]
theorem lit_row (l : List Int) (ρ : Ren) : VRels ρ (l.map (EV.int .u8)) (ints l) := by
  induction l with
  | nil => exact .nil
  | cons x l ih => exact .cons _ _ _ _ (.int _ _) ih

theorem putTextI_ok {S : ByteArray} {i : Int} (hS : SymsAt S i) (hn : S.size ≤ 1000) : IntrOk Tryz.prog 24 (putTextI S.size) := by
  intro args h v h' hx ρ w args' hr ha
  unfold putTextI at hx
  split at hx
  · cases hx
    obtain ⟨al⟩ := args'
    cases ha with | cons _ v0 _ vs h0 hs => ?_
    cases hs with | cons _ v1 _ vs h1 hs => ?_
    cases hs
    cases h0
    cases h1 with | sym _ _ hv _ => ?_
    rw [hS.name] at hv
    subst hv
    refine .inl ⟨enter0 (show tb0.fn 24 = some Tryz.f24 by kernel_rfl) rfl _ _, fun nd => callsIn_wide.2 ((puttext_nil S (by omega) w).mono fun e w' hq => ?_)⟩
    obtain ⟨v', rfl, hown, hne, hb⟩ := hq
    refine ⟨v', rfl, new_own hr hown hne hb ((lit_row _ ρ).append ?_) ?_⟩
    · rw [strCells_ints]
      refine sym_row (by rw [List.length_map, Array.length_toList]; rfl) (fun k x hk => ?_) ρ
      rw [List.getElem?_map] at hk
      cases hb : S.data.toList[k]? with
      | none => rw [hb] at hk; cases hk
      | some b =>
        have hkl : k < S.size := by have := (List.getElem?_eq_some_iff.1 hb).1; rw [Array.length_toList] at this; exact this
        rw [hb] at hk; cases hk; exact hS.text k b (by omega) hb
    · intro u hu
      rcases List.mem_append.1 hu with hu | hu
      · exact ints_one _ u hu
      · rw [strCells_ints] at hu; exact ints_one _ u hu
  · exact ownI_ok 24 _ _ _ _ hx ρ w args' hr ha

theorem putWordI_ok {S : ByteArray} {i : Int} (hS : SymsAt S i) : IntrOk Tryz.prog 23 putWordI := by
  intro args h v h' hx ρ w args' hr ha
  unfold putWordI at hx
  split at hx
  · rename_i m off len cap
    split at hx
    rotate_left
    · cases hx
    rename_i c e vr hg
    split at hx
    rotate_left
    · cases hx
    rename_i old hold
    cases hc : (old.all byteE && (Nat.blt 0 len && Nat.ble len 100000)) with
    | false => rw [hc] at hx; cases hx
    | true =>
      rw [hc] at hx
      cases hx
      simp only [Bool.and_eq_true] at hc
      obtain ⟨hc1, hc2, hc3⟩ := hc
      have hc2 := Nat.le_of_ble_eq_true hc2
      have hc3 := Nat.le_of_ble_eq_true hc3
      obtain ⟨al⟩ := args'
      cases ha with | cons _ v0 _ vs h0 hs => ?_
      cases hs with | cons _ v1 _ vs h1 hs => ?_
      cases hs
      cases h1 with | sym _ _ hv _ => ?_
      rw [hS.id] at hv
      subst hv
      cases h0 with | slice _ _ _ _ _ L o C hL hl hcap ho => ?_
      obtain ⟨cc, fr, hrow⟩ := hr.row hg hL
      obtain ⟨rb, rv⟩ := hrow.read hold
      obtain ⟨l, hl2⟩ := byte_row hS.bytes rv hc1
      have hlen : l.length = len := by
        have h1 := rv.length
        have h2 := (readFrom_get hold).1
        rw [hl2, List.length_map] at h1
        omega
      have ho2 : o = L.sh + off := by rcases ho with h | h <;> omega
      subst ho2
      have hcell : ∀ k, k < len → w.cell? ((⟨L.b, L.sh + off, none⟩ : Addr).add k) = some (.int .u8 ((l.map fun x => (x.toNat : Int)).getD k 0)) := by
        intro k hk
        have e1 : (cc.extract (L.sh + off) (L.sh + off + len)).toList[k]? = some (.int .u8 (l[k]'(by omega)).toNat) := by
          rw [hl2, List.getElem?_map, List.getElem?_eq_getElem (by omega)]; rfl
        rw [Array.getElem?_toList, Array.getElem?_extract] at e1
        split at e1
        · rw [addr_add, Eng.cell_row hrow.heap]
          simp [List.getD, List.getElem?_eq_getElem (show k < l.length by omega)]
          simpa using e1
        · cases e1
      refine .inl ⟨enter0 (show tb0.fn 23 = some Tryz.f23 by kernel_rfl) rfl _ _, fun nd => callsIn_wide.2 ((putword_at ⟨L.b, L.sh + off, none⟩ len C (l.map fun x => (x.toNat : Int)) (i : Int) w (by simpa using hlen) (by omega) hcell).mono fun e w' hq => ?_)⟩
      obtain ⟨v', rfl, hown, hne, hb⟩ := hq
      refine ⟨v', rfl, new_own hr hown hne hb (VRels.append ?_ ?_) ?_⟩
      · rw [hl2] at rv
        simpa [ints, List.map_map, Function.comp_def] using rv
      · exact sym_row rfl hS.word ρ
      · intro u hu
        rcases List.mem_append.1 hu with hu | hu <;> exact ints_one _ u hu
  · exact ownI_ok 23 _ _ _ _ hx ρ w args' hr ha

theorem any_row : ∀ {n : Nat} {xs : List Int}, xs.length = n → ∀ ρ, VRels ρ (List.replicate n EV.any) (ints xs) := by
  intro n
  induction n with
  | zero => intro xs h ρ; obtain rfl := List.eq_nil_of_length_eq_zero h; exact .nil
  | succ n ih =>
    intro xs h ρ
    match xs, h with
    | x :: xs, h => exact .cons _ _ _ _ (.any _ rfl) (ih (by simpa using h) ρ)

theorem recordI_ok {S : ByteArray} {i : Int} (hS : SymsAt S i) : IntrOk Tryz.prog 54 recordI := by
  intro args h v h' hx ρ w args' hr ha
  unfold recordI at hx
  cases hq : recSym args h with
  | none =>
    rw [hq] at hx
    exact ownI_ok 54 _ _ _ _ hx ρ w args' hr ha
  | some r =>
    rw [hq] at hx
    cases hx
    unfold recSym at hq
    split at hq
    rotate_left
    · cases hq
    rename_i m off len cap
    split at hq
    rotate_left
    · cases hq
    rename_i c e vr hg
    split at hq
    rotate_left
    · cases hq
    rename_i old hold
    cases hc : (old.all byteE && (old.any symE && Nat.blt len 16000)) with
    | false => rw [hc] at hq; cases hq
    | true =>
      rw [hc] at hq
      cases hq
      simp only [Bool.and_eq_true] at hc
      obtain ⟨hc1, hc2, hc3⟩ := hc
      have hc3 := Nat.le_of_ble_eq_true hc3
      have h2 := (readFrom_get hold).1
      have hpos : 0 < len := by
        rcases Nat.eq_zero_or_pos len with h0 | h0
        · rw [h0] at h2
          obtain rfl := List.eq_nil_of_length_eq_zero h2
          cases hc2
        · exact h0
      obtain ⟨al⟩ := args'
      cases ha with | cons _ v0 _ vs h0 hs => ?_
      cases hs
      cases h0 with | slice _ _ _ _ _ L o C hL hl hcap ho => ?_
      obtain ⟨cc, fr, hrow⟩ := hr.row hg hL
      obtain ⟨rb, rv⟩ := hrow.read hold
      obtain ⟨l, hl2⟩ := byte_row hS.bytes rv hc1
      have hlen : l.length = len := by
        have h1 := rv.length
        rw [hl2, List.length_map] at h1
        omega
      have ho2 : o = L.sh + off := by rcases ho with h | h <;> omega
      subst ho2
      subst hlen
      have hcell : ∀ k x, l[k]? = some x → w.cell? ⟨L.b, L.sh + off + k, none⟩ = some (.int .u8 (x.toNat : Int)) := by
        intro k x hk
        have hkl := (List.getElem?_eq_some_iff.1 hk).1
        have e1 : (cc.extract (L.sh + off) (L.sh + off + l.length)).toList[k]? = some (.int .u8 x.toNat) := by
          rw [hl2, List.getElem?_map, hk]; rfl
        rw [Array.getElem?_toList, Array.getElem?_extract] at e1
        split at e1
        · rw [Eng.cell_row hrow.heap]; exact e1
        · cases e1
      refine .inl ⟨enter0 (show tb0.fn 54 = some Tryz.f54 by kernel_rfl) rfl _ _, fun nd => callsIn_wide.2 ((record_at L.b (L.sh + off) C l w (hr.dom m L hL).2 hl (by omega) hcell).mono fun e w' hq => ?_)⟩
      obtain ⟨v', xs, rfl, hown, hne, hb⟩ := hq
      exact ⟨v', rfl, new_own hr hown hne hb (any_row (by have := hown.1; simpa using this) ρ) (ints_one _)⟩

theorem pathI_ok {S : ByteArray} {i : Int} (hS : SymsAt S i) : IntrOk Tryz.prog 28 (pathI (pathD S).1) := by
  intro args h v h' hx ρ w args' hr ha
  unfold pathI at hx
  split at hx
  · cases hx
    obtain ⟨al⟩ := args'
    cases ha with | cons _ v0 _ vs h0 hs => ?_
    cases hs
    cases h0 with | sym _ _ hv _ => ?_
    rw [hS.name] at hv
    subst hv
    refine .inl ⟨enter0 (show tb0.fn 28 = some Tryz.f28 by kernel_rfl) rfl _ _, fun nd => callsIn_wide.2 ((namepath_holds S w).mono fun e w' hq => ?_)⟩
    obtain ⟨rfl, hbw⟩ := hq
    exact ⟨_, rfl, cpost_below hr hbw (.agg _ _ (.cons _ _ _ _ (.int _ _) (.cons _ _ _ _ (.any _ rfl) .nil)))⟩
  · exact ownI_ok 28 _ _ _ _ hx ρ w args' hr ha
end Go.Eng

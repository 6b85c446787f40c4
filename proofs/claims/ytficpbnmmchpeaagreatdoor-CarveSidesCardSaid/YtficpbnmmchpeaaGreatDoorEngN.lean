/- A part of the proof of CarveSides: a verified interpreter of the model's own code, its soundness, and contracts of the library's functions. Conditions: none. -/
import Derived.Test.YtficpbnmmchpeaaGreatDoorEngH
import Derived.Below
import Derived.Shelf.Spec.SlicesGrow
import Derived.Test.YtficpbnmmchpeaaGreatDoorEngK
import Derived.WideShapes
import Derived.Shelf.SlIter.Sorted
import Derived.Test.YtficpbnmmchpeaaGreatDoorEngD
namespace Go.Eng
open Go Go.RowKit
variable [Syms]

variable {P : Program} {tb : Tab} {ρ : Ren} {h : EH} {w w' : World}

/-! Contracts of the library's functions, as intrinsics of the engine. -/

/-- A new block, wherever it lies, under a new name; nothing that was has turned. -/
theorem Rel.newAt {nm g sz : Nat} {o : EO} {x : Obj} (hr : Rel P ρ h w) (hn : ρ nm = none) (hlt : nm < h.next) (hb : Below w.heap.size w w') (hg : w.heap.size ≤ g) (hx : w'.heap[g]? = some x)
    (ho : ORel P (ρ.put nm ⟨g, 0, sz⟩) ⟨g, 0, sz⟩ o (some x)) :
    Rel P (ρ.put nm ⟨g, 0, sz⟩) (h.set nm o) w' ∧ Extd (· = nm) ρ h w (ρ.put nm ⟨g, 0, sz⟩) (h.set nm o) w' := by
  have hle : ρ.le (ρ.put nm ⟨g, 0, sz⟩) := Ren.le_put hn
  have hgl : g < w'.heap.size := (Array.getElem?_eq_some_iff.1 hx).1
  have old : ∀ k, k < w.heap.size → w'.heap[k]? = w.heap[k]? := hb.block
  refine ⟨⟨fun n o' L e1 e2 => ?_, fun n n' o1 o2 L L' e1 e2 e3 e4 e5 => ?_, fun n L e => ?_, fun n o' e => ?_, (hr.pin.names (put_names hn (.inr hg))).kept old⟩, ⟨hle, Nat.le_refl _, fun n L e => ?_, hb.os, hb.tape, hb.output, hb.size, fun b hb _ => old b hb, fun n o' e => ?_, fun b r e => ⟨r, by rw [old b (Array.getElem?_eq_some_iff.1 e).1]; exact e⟩, fun n o' L e1 e2 e3 => ?_⟩⟩
  · rcases EH.get_set e1 with ⟨rfl, rfl⟩ | ⟨hne, e1⟩
    · rw [Ren.put_same] at e2; cases e2
      rw [hx]; exact ho
    · rw [Ren.put_other _ _ hne] at e2
      have := (hr.live n o' L e1 e2).mono hle
      rwa [old _ (hr.dom n L e2).2]
  · rcases EH.get_set e1 with ⟨rfl, rfl⟩ | ⟨hne, e1⟩ <;> rcases EH.get_set e2 with ⟨rfl, rfl⟩ | ⟨hne', e2⟩
    · rfl
    · rw [Ren.put_same] at e3; cases e3
      rw [Ren.put_other _ _ hne'] at e4
      have := (hr.dom _ _ e4).2
      simp at e5; omega
    · rw [Ren.put_same] at e4; cases e4
      rw [Ren.put_other _ _ hne] at e3
      have := (hr.dom _ _ e3).2
      simp at e5; omega
    · rw [Ren.put_other _ _ hne] at e3; rw [Ren.put_other _ _ hne'] at e4
      exact hr.inj _ _ _ _ _ _ e1 e2 e3 e4 e5
  · by_cases hne : n = nm
    · subst hne; rw [Ren.put_same] at e; cases e; exact ⟨hlt, hgl⟩
    · rw [Ren.put_other _ _ hne] at e
      have := hr.dom n L e
      exact ⟨this.1, Nat.lt_of_lt_of_le this.2 hb.size⟩
  · rcases EH.get_set e with ⟨rfl, _⟩ | ⟨_, e⟩
    · exact hlt
    · exact hr.low _ _ e
  · by_cases hne : n = nm
    · exact .inr hne
    · rw [Ren.put_other _ _ hne] at e; exact .inl e
  · rcases EH.get_set e with ⟨rfl, _⟩ | ⟨_, e⟩
    · exact .inr rfl
    · exact .inl ⟨_, e⟩
  · rcases EH.get_set e1 with ⟨rfl, rfl⟩ | ⟨hne, e1⟩
    · rw [Ren.put_same] at e2; cases e2; simp at e3; omega
    · rw [Ren.put_other _ _ hne] at e2; exact ⟨n, o', L, e1, e2, rfl⟩

theorem Rel.fresh (hr : Rel P ρ h w) {n : Nat} (hn : h.next ≤ n) : ρ n = none := by
  cases e : ρ n with
  | none => rfl
  | some L => have := (hr.dom n L e).1; omega

/-- The call's end: a new name under the heap's own count. -/
theorem cpost_new {v : EV} {v' : Value} {ρ' : Ren} {o : EH} (hr : Rel P ρ h w) (hv : VRel ρ' v v') (hr' : Rel P ρ' o w') (hx : Extd (· = h.next) ρ ⟨h.objs, h.next + 1⟩ w ρ' o w') : CPost P ρ h w v o v' w' :=
  ⟨ρ', hv, hr', ((Rel.reserve (h.next ≤ ·) hr (Nat.le_succ _)).2).trans hx (fun _ h => h) (fun n hn => by subst hn; exact Nat.le_refl _)⟩

/-- An intrinsic is sound. -/
def IntrOk (P : Program) (g : FuncId) (r : List EV → EH → Option (EV × EH)) : Prop := ∀ (args : List EV) (h : EH) (v : EV) (h' : EH), r args h = some (v, h') → ∀ (ρ : Ren) (w : World) (args' : Array Value), Rel P ρ h w → VRels ρ args args'.toList → CallOk P g args' w (CPost P ρ h w v h')
end Go.Eng

namespace Go.Eng
open Go Go.RowKit Go.Proofs
variable [Syms]

variable {P : Program} {tb : Tab} {ρ : Ren} {h : EH} {w w' : World}

/-- slices.Grow of bytes: the same bytes under a new name. -/
noncomputable def growI (e0 : TypeId) (args : List EV) (h : EH) : Option (EV × EH) :=
  match args with
  | [.slice n off len none 1, .int .i64 k] => match h.get n with
    | some (.cells c e _) => match Nat.beq e e0 && (decide (0 ≤ k) && Nat.ble (len + k.toNat) 1000000000) with
      | true => match readFrom c off len with
        | some old => some (.slice h.next 0 len none 1, (⟨h.objs.del n, h.next + 1⟩ : EH).set h.next (.cells (rowOf old) e0 false))
        | none => none
      | false => none
    | _ => none
  | _ => none

theorem rowOf_rel {ρ' : Ren} {old : List EV} {c d : Array Value} {a : Nat} (hv : VRels ρ' old c.toList) (h1 : ∀ v ∈ c.toList, v.oneCell' = true) (hd : ∀ k, k < c.size → d[a + k]? = c[k]?) :
    ∀ k ev, (rowOf old).get k = some ev → ∃ v, d[a + k]? = some v ∧ VRel ρ' ev v ∧ v.oneCell' = true := by
  intro k ev hk
  obtain ⟨v, h2, h3⟩ := hv.getA (rowOf_get hk)
  have hkl : k < c.size := (Array.getElem?_eq_some_iff.1 h2).1
  exact ⟨v, by rw [hd k hkl]; exact h2, h3, h1 v (List.mem_of_getElem? (by simpa using h2))⟩

theorem growI_ok {σ : Shelf.Ren} (L : Lays8.n4 P σ) (enter : ∀ args w, (callFunc (σ.f 4) args).run P w = .ok (.enter (σ.f 4) args) w) {i0 : TypeInfo} {z : Value} (hi0 : P.info? (σ.t 25) = some i0) (hz0 : i0.zero = some z) (hs0 : i0.size = 1) (hb0 : i0.bytes ≤ 1024) (hzc : z.cells.size = 1)
    (args : List EV) (h : EH) (v : EV) (h' : EH) (hx : growI (σ.t 25) args h = some (v, h')) (ρ : Ren) (w : World) (args' : Array Value) (hr : Rel P ρ h w) (ha : VRels ρ args args'.toList) : CallOk P (σ.f 4) args' w (CPost P ρ h w v h') := by
  unfold growI at hx
  split at hx
  rotate_left
  · cases hx
  rename_i n off len k
  split at hx
  rotate_left
  · cases hx
  rename_i c e vr hg
  split at hx
  rotate_left
  · cases hx
  rename_i hb
  split at hx
  rotate_left
  · cases hx
  rename_i old hold
  cases hx
  simp only [Bool.and_eq_true] at hb
  obtain ⟨hb1, hb2, hb3⟩ := hb
  have hb1 := Nat.eq_of_beq_eq_true hb1
  have hb2 := of_decide_eq_true hb2
  have hb3 := Nat.le_of_ble_eq_true hb3
  subst hb1
  obtain ⟨k, rfl⟩ := Int.eq_ofNat_of_zero_le hb2
  simp only [Int.toNat_natCast] at hb3
  obtain ⟨v1, v2, rfl⟩ : ∃ v1 v2, args' = #[v1, v2] := by
    have h1 := ha.length
    match args', h1 with
    | ⟨[a, b]⟩, _ => exact ⟨a, b, rfl⟩
  cases ha with | cons _ _ _ _ ha1 ha2 => ?_
  cases ha2 with | cons _ _ _ _ ha2 _ => ?_
  cases ha2
  cases ha1 with | slice _ _ _ _ _ Lc o C hL hlc hcc hoo => ?_
  have hC := hcc.2 rfl
  obtain ⟨cc, fr, p1, p2, p3, p4, p5⟩ := hr.live n _ Lc hg hL
  have p4' : ∀ k, k < cc.size → ¬ (fr.1 ≤ k ∧ k < fr.2) := fun k hk => by rcases p4 with p4 | ⟨p4, _⟩ <;> omega
  have hrow : RowAt P ρ w Lc c (σ.t 25) cc fr := ⟨p1, p2, p4', p5⟩
  obtain ⟨rb, rv⟩ := hrow.read hold
  have ro := hrow.ones hold
  obtain ⟨r0, x0⟩ := hr.reserve (fun _ => False) (k := h.next + 1) (Nat.le_succ _)
  have hnone := hr.fresh (n := h.next) (Nat.le_refl _)
  refine .inl ⟨enter _ _, fun m => ?_⟩
  refine callsIn_wide.2 ?_
  by_cases hroom : len + k ≤ C
  · refine (Any8.slices_Grow_room L _ len C k w hlc hC (by omega) hroom).mono ?_
    rintro e w' ⟨rfl, rfl⟩
    refine ⟨_, rfl, ?_⟩
    obtain ⟨q1, q2⟩ := r0.rename (nm := h.next) (sh := Lc.sh + off) (o' := .cells (rowOf old) (σ.t 25) false) hg hL hnone (Nat.lt_succ_self _) (.refl p1)
      ⟨cc, fr, rfl, p2, (fun h => by cases h), p4, by
        refine rowOf_rel (rv.mono (Ren.le_put hnone)) ro fun j hj => ?_
        rw [Array.getElem?_extract, if_pos (by simpa using hj)]⟩
    refine cpost_new hr (.slice _ _ _ _ _ ⟨Lc.b, Lc.sh + off, Lc.sz⟩ o C (Ren.put_same _ _ _) hlc (.wide hC) ?_) q1 q2
    rcases hoo with h3 | ⟨h3, h4⟩
    · exact .inl h3
    · exact .inr ⟨by simpa using h3, h4⟩
  · let cs : Array Value := cc.extract o (o + C)
    have hcs : cs.size = C := by
      rcases hoo with h3 | ⟨_, h4⟩
      · simp only [cs, Array.size_extract]; omega
      · simp only [cs, Array.size_extract]; omega
    have hbig : (len + k) * i0.bytes ≤ 140737488355328 := Nat.le_trans (Nat.mul_le_mul hb3 hb0) (by omega)
    have hge : len + k ≤ Go.grownCap w (len + k) C (σ.t 25) := grownCap_ge w _ _ _
    have hle : Go.grownCap w (len + k) C (σ.t 25) ≤ maxLen := grownCap_le_maxLen w _ _ _ (by unfold maxLen; omega)
    have hle : Go.grownCap w (len + k) C (σ.t 25) ≤ 9223372036854775807 := by unfold maxLen at hle; omega
    refine (Any8.slices_Grow_grow L i0 z hi0 hz0 (by omega) (some ⟨Lc.b, o, none⟩) len C k cs.toList w hlc (by omega) hbig (by omega) (by simp [hcs, hs0]) (fun e => by cases e) (fun a ea j u hj => ?_)).mono ?_
    · cases ea
      rw [addr_add, Eng.cell_row p1]
      rw [Array.getElem?_toList] at hj
      simp only [cs, Array.getElem?_extract] at hj
      split at hj
      · exact hj
      · cases hj
    · rintro e w' ⟨rfl, hw⟩
      refine ⟨_, rfl, ?_⟩
      generalize hG : Go.grownCap w (len + k) C (σ.t 25) = G at hw hge hle ⊢
      obtain ⟨d1, d2⟩ := Rel.del (fun _ => False) r0 hg hL (.refl p1)
      generalize hd : cs.toList.toArray ++ Builtin.zeroCells z.cells (len + k - C) ++ Builtin.zeroCells z.cells (G - (len + k)) = d at hw
      have hds : d.size = G := by
        rw [← hd]
        simp only [Array.size_append, zeroCells_size, hzc, hcs]
        omega
      have hheap : w'.heap = w.heap.push (.cells d (σ.t 25)) := by rw [hw]; rfl
      obtain ⟨q1, q2⟩ := d1.new (nm := h.next) (o := .cells (rowOf old) (σ.t 25) false) (sz := d.size) hnone (Nat.lt_succ_self _) hheap (by rw [hw]; rfl) (by rw [hw]; rfl) (by rw [hw]; rfl)
        ⟨d, (0, 0), rfl, rfl, (fun h => by cases h), .inl rfl, by
          refine rowOf_rel (rv.mono (Ren.le_put hnone)) ro fun j hj => ?_
          have hjl : j < len := by simp only [Array.size_extract] at hj; omega
          have ho : o = Lc.sh + off := by
            rcases hoo with h3 | ⟨h3, _⟩
            · omega
            · exact h3
          rw [Nat.zero_add, ← hd, Array.append_assoc, Array.getElem?_append_left (by simp [hcs]; omega)]
          simp only [Array.toArray_toList, cs, Array.getElem?_extract, ho]
          rw [if_pos (by omega), if_pos (by omega)]⟩
      refine cpost_new hr (.slice _ _ _ _ _ ⟨w.heap.size, 0, d.size⟩ 0 G (Ren.put_same _ _ _) (by omega) (.wide hle) (.inr ⟨rfl, by simp only; omega⟩)) q1 (d2.trans q2 (fun _ h => h.elim) (fun _ h => h))
end Go.Eng

namespace Go.Eng
open Go Go.RowKit Go.Proofs Go.Maps
variable [Syms]

variable {P : Program} {tb : Tab} {ρ : Ren} {h : EH} {w w' : World}

/-! slices.Sorted of what maps.Keys gave. -/

def insK (k : List Nat) : List (List Nat) → List (List Nat)
  | [] => [k]
  | a :: l => cond (strLess k a) (k :: a :: l) (a :: insK k l)
def sortK : List (List Nat) → List (List Nat)
  | [] => []
  | a :: l => insK a (sortK l)

def notInK (k : List Nat) : List (List Nat) → Bool
  | [] => true
  | a :: l => cond (strEq k a) false (notInK k l)
def notInN (k : Nat) : List Nat → Bool
  | [] => true
  | a :: l => cond (Nat.beq k a) false (notInN k l)

/-- The keys of a map whose keys are texts; that they, and the stamps, are unlike. -/
def keysK (clock : Nat) : List (EV × EV × Nat) → Option (List (List Nat) × List Nat)
  | [] => some ([], [])
  | e :: es => match e.1, keysK clock es with
    | .str s, some (ks, bs) => cond (notInK s ks && (notInN e.2.2 bs && (Nat.blt e.2.2 clock && Nat.ble s.length 1000000))) (some (s :: ks, e.2.2 :: bs)) none
    | _, _ => none

noncomputable def sortedI (e0 : TypeId) (it : FuncId → Bool) (args : List EV) (h : EH) : Option (EV × EH) :=
  match args with
  | [.func (.func g) [] [.ptr bx 0]] => match it g, (match h.get bx with
      | some (.cells c _ true) => c.get 0
      | _ => none) with
    | true, some (.map m) => match h.get m with
      | some (.map es clock) => match keysK clock es with
        | some (ks, _) => cond (Nat.ble ks.length 100000) (match ks with
          | [] => some (.nilSlice, h)
          | _ => some (.slice h.next 0 ks.length none 1, (⟨h.objs, h.next + 1⟩ : EH).set h.next (.cells (rowOf ((sortK ks).map EV.str)) e0 false))) none
        | none => none
      | _ => none
    | _, _ => none
  | _ => none

/-! The plain law: sorted texts. -/
def nats (l : List UInt8) : List Nat := l.map (·.toNat)
omit [Syms] in
theorem nats_inj {x y : List UInt8} (h : nats x = nats y) : x = y := by
  unfold nats at h
  exact (List.map_inj_right (fun a b e => UInt8.toNat_inj.1 e)).1 h
omit [Syms] in
theorem strEq_iff : ∀ {x y : List Nat}, strEq x y = true ↔ x = y := by
  intro x
  induction x with
  | nil => intro y; cases y <;> simp [strEq]
  | cons a x ih => intro y; cases y with
    | nil => simp [strEq]
    | cons b y =>
      simp only [strEq, Bool.and_eq_true, ih, List.cons.injEq]
      exact and_congr_left fun _ => ⟨Nat.eq_of_beq_eq_true, fun e => by subst e; simp⟩
omit [Syms] in
theorem strLess_iff : ∀ {x y : List UInt8}, strLess (nats x) (nats y) = true ↔ x < y := by
  intro x
  induction x with
  | nil => intro y; cases y with
    | nil => simp [strLess, nats]
    | cons b y => simp [strLess, nats]
  | cons a x ih => intro y; cases y with
    | nil => simp [strLess, nats]
    | cons b y =>
      show (Nat.blt a.toNat b.toNat || (Nat.beq a.toNat b.toNat && strLess (nats x) (nats y))) = true ↔ _
      rw [List.cons_lt_cons_iff, Bool.or_eq_true, Bool.and_eq_true, ih]
      have h1 : Nat.blt a.toNat b.toNat = true ↔ a < b := by
        rw [UInt8.lt_iff_toNat_lt]
        exact ⟨fun h => Nat.le_of_ble_eq_true h, fun h => Nat.ble_eq_true_of_le h⟩
      have h2 : Nat.beq a.toNat b.toNat = true ↔ a = b := by
        constructor
        · intro h; exact UInt8.toNat_inj.1 (Nat.eq_of_beq_eq_true h)
        · rintro rfl; simp
      rw [h1, h2]

omit [Syms] in
theorem insK_perm (k : List Nat) : ∀ l, (insK k l).Perm (k :: l)
  | [] => .refl _
  | a :: l => by
    unfold insK
    cases strLess k a with
    | true => exact .refl _
    | false => exact ((insK_perm k l).cons a).trans (.swap _ _ _)
omit [Syms] in
theorem sortK_perm : ∀ l, (sortK l).Perm l
  | [] => .refl _
  | a :: l => (insK_perm a _).trans ((sortK_perm l).cons a)

def leN (x y : List Nat) : Prop := strLess y x = false
omit [Syms] in
theorem insK_sorted {k : List UInt8} : ∀ {l : List (List UInt8)}, (l.map nats).Pairwise leN → (insK (nats k) (l.map nats)).Pairwise leN := by
  have tr : ∀ {a b c : List UInt8}, leN (nats a) (nats b) → leN (nats b) (nats c) → leN (nats a) (nats c) := by
    intro a b c h1 h2
    unfold leN at *
    rw [Bool.eq_false_iff, ne_eq, strLess_iff] at *
    exact List.le_trans h1 h2
  intro l
  induction l with
  | nil => intro _; exact List.pairwise_singleton _ _
  | cons a l ih =>
    intro hp
    rw [List.map_cons, List.pairwise_cons] at hp
    rw [List.map_cons]
    unfold insK
    cases hs : strLess (nats k) (nats a) with
    | true =>
      have hka : leN (nats k) (nats a) := by
        unfold leN
        rw [Bool.eq_false_iff, ne_eq, strLess_iff]
        exact List.lt_asymm (strLess_iff.1 hs)
      simp only [cond]
      refine List.pairwise_cons.2 ⟨fun b hb => ?_, List.pairwise_cons.2 hp⟩
      rcases List.mem_cons.1 hb with rfl | hb
      · exact hka
      · obtain ⟨c, hc, rfl⟩ := List.mem_map.1 hb
        exact tr hka (hp.1 _ hb)
    | false =>
      simp only [cond]
      refine List.pairwise_cons.2 ⟨fun b hb => ?_, ih hp.2⟩
      rcases List.mem_cons.1 ((insK_perm _ _).mem_iff.1 hb) with rfl | hb
      · exact hs
      · exact hp.1 _ hb

omit [Syms] in
theorem sortK_sorted : ∀ (l : List (List UInt8)), (sortK (l.map nats)).Pairwise leN ∧ ∃ m : List (List UInt8), sortK (l.map nats) = m.map nats
  | [] => ⟨.nil, [], rfl⟩
  | a :: l => by
    obtain ⟨h1, m, hm⟩ := sortK_sorted l
    have e : sortK ((a :: l).map nats) = insK (nats a) (m.map nats) := by rw [List.map_cons]; unfold sortK; rw [hm]
    rw [hm] at h1
    refine ⟨by rw [e]; exact insK_sorted h1, ?_⟩
    rw [e]
    clear e h1 hm
    induction m with
    | nil => exact ⟨[a], rfl⟩
    | cons b m ih =>
      obtain ⟨m', hm'⟩ := ih
      rw [List.map_cons]
      unfold insK
      cases strLess (nats a) (nats b) with
      | true => exact ⟨a :: b :: m, rfl⟩
      | false => exact ⟨b :: m', by simp only [cond, hm', List.map_cons]⟩

omit [Syms] in
/-- The one sorted list. -/
theorem sortK_eq {l ss : List (List UInt8)} (hp : ss.Perm l) : sortK (l.map nats) = (ss.mergeSort fun x y => decide (x ≤ y)).map nats := by
  obtain ⟨h1, m, hm⟩ := sortK_sorted l
  have hpm : m.Perm l := by
    have h2 := sortK_perm (l.map nats)
    rw [hm] at h2
    have h3 := h2.map (fun x : List Nat => x.map UInt8.ofNat)
    have hid : ∀ z : List (List UInt8), (z.map nats).map (fun x : List Nat => x.map UInt8.ofNat) = z := fun z => by
      rw [List.map_map]
      conv => rhs; rw [← List.map_id z]
      refine List.map_congr_left fun x _ => ?_
      show (nats x).map UInt8.ofNat = x
      unfold nats
      rw [List.map_map]
      conv => rhs; rw [← List.map_id x]
      exact List.map_congr_left fun b _ => by simp
    rwa [hid, hid] at h3
  rw [hm] at h1 ⊢
  congr 1
  have tr : ∀ a b c : List UInt8, leB a b = true → leB b c = true → leB a c = true := fun a b c h1 h2 => by simp only [leB, decide_eq_true_eq] at *; exact List.le_trans h1 h2
  have to : ∀ a b : List UInt8, (leB a b || leB b a) = true := fun a b => by simp only [leB, Bool.or_eq_true, decide_eq_true_eq]; exact List.le_total a b
  refine List.Perm.eq_of_pairwise (le := fun a b => leB a b = true) (fun a b _ _ h1 h2 => ?_) ?_ (List.pairwise_mergeSort tr to ss) (hpm.trans (hp.symm.trans (List.mergeSort_perm ss leB).symm))
  · simp only [leB, decide_eq_true_eq] at h1 h2
    exact List.le_antisymm h1 h2
  · rw [List.pairwise_map] at h1
    refine h1.imp fun {a b} hab => ?_
    unfold leN at hab
    rw [Bool.eq_false_iff, ne_eq, strLess_iff] at hab
    simpa [leB] using hab

/-! The contract. -/
structure SortedOk (P : Program) (f : FuncId) (e0 : TypeId) : Prop where
  enter : ∀ args w, (callFunc f args).run P w = .ok (.enter f args) w
  run : ∀ (g : Nat) (lb : Array Value) (_ : ∀ args w, (callFunc g args).run P w = .ok (.enter g args) w) (S : List (List UInt8) → Prop) (N : Nat) (_ : N ≤ maxLen) (_ : N * 16 ≤ 140737488355328) (w : World) (_ : SeqGives Fence.wide 2 P g lb encStr S N w),
    CallsIn Fence.wide 5 P f #[.func (.func g) #[] lb] w fun e w' => ∃ (v : Value) (ss : List (List UInt8)), e = .returned v ∧ S ss ∧
      w'.ownsRow w.heap.size e0 1 v ss.length ((ss.mergeSort (fun x y => decide (x ≤ y))).map encStr) ∧ (v = .slice none 0 0 ↔ ss = []) ∧ Below w.heap.size w w'

structure IterOk (P : Program) (g : FuncId) (k : TypeId) : Prop where
  enter : ∀ args w, (callFunc g args).run P w = .ok (.enter g args) w
  gives : ∀ (Bm b nn : Nat) (D0 : DataW Unit) (R : Value → Option (DataW Unit × List MemPlace)) (w : World), Bm < w.heap.size → w.cell? ⟨Bm, 0, none⟩ = some (.map (some b)) → w.ownsMap P k R b nn D0 →
    SeqGives Fence.wide 2 P g #[.pointer (some ⟨Bm, 0, none⟩)] encStr (fun ss => ss.Perm (strKeys D0)) (Maps.size D0) w

omit [Syms] in
theorem notInK_spec {k : List Nat} : ∀ {l : List (List Nat)}, notInK k l = true → k ∉ l := by
  intro l
  induction l with
  | nil => intro _ h; cases h
  | cons a l ih =>
    intro h hm
    unfold notInK at h
    cases he : strEq k a with
    | true => rw [he] at h; cases h
    | false =>
      rw [he] at h
      rcases List.mem_cons.1 hm with rfl | hm
      · rw [strEq_iff.2 rfl] at he; cases he
      · exact ih h hm
omit [Syms] in
theorem notInN_spec {k : Nat} : ∀ {l : List Nat}, notInN k l = true → k ∉ l := by
  intro l
  induction l with
  | nil => intro _ h; cases h
  | cons a l ih =>
    intro h hm
    unfold notInN at h
    cases he : Nat.beq k a with
    | true => rw [he] at h; cases h
    | false =>
      rw [he] at h
      rcases List.mem_cons.1 hm with rfl | hm
      · simp at he
      · exact ih h hm

theorem keysK_spec {ρ : Ren} {clock : Nat} : ∀ {es : List (EV × EV × Nat)} {xs : List MapEntry} {ks : List (List Nat)} {bs : List Nat}, MRel ρ es xs → keysK clock es = some (ks, bs) →
    ks.length = xs.length ∧ bs = xs.map (·.born) ∧ (∀ x ∈ xs, x.born < clock) ∧ bs.Nodup ∧ (xs.map (·.key)).Nodup ∧ ∃ ls : List (List UInt8), ks = ls.map nats ∧ xs.map (·.key) = ls.map encStr ∧ ∀ l ∈ ls, l.length ≤ 1000000
  | [], [], ks, bs, _, h => by cases h; exact ⟨rfl, rfl, (fun _ h => by cases h), .nil, .nil, [], rfl, rfl, fun _ h => by cases h⟩
  | e :: es, x :: xs, ks, bs, ⟨m1, _, m3, m4⟩, h => by
    unfold keysK at h
    split at h
    · rename_i s ks' bs' he hk
      cases hb : (notInK s ks' && (notInN e.2.2 bs' && (Nat.blt e.2.2 clock && Nat.ble s.length 1000000))) with
      | false => rw [hb] at h; cases h
      | true =>
        rw [hb] at h
        cases h
        simp only [Bool.and_eq_true] at hb
        obtain ⟨b1, b2, b3, b4⟩ := hb
        obtain ⟨i1, i2, i3, i4, i5, ls, i6, i7, i8⟩ := keysK_spec m4 hk
        have b1 := notInK_spec b1
        have b2 := notInN_spec b2
        have b3 : e.2.2 < clock := Nat.le_of_ble_eq_true b3
        have b4 := Nat.le_of_ble_eq_true b4
        rw [he] at m1
        obtain ⟨l, hl1, hl2⟩ : ∃ l : List UInt8, x.key = encStr l ∧ nats l = s := by
          cases hx : x.key with
          | string q =>
            rw [hx] at m1
            cases m1 with | str _ _ hq => ?_
            exact ⟨q.data.toList, by simp [encStr], hq⟩
          | _ => rw [hx] at m1; cases m1
        subst hl2
        refine ⟨by simp [i1], by simp [i2, m3], fun y hy => ?_, List.nodup_cons.2 ⟨b2, i4⟩, ?_, l :: ls, by simp [i6], by simp [hl1, i7], fun y hy => ?_⟩
        · rcases List.mem_cons.1 hy with rfl | hy
          · rw [← m3]; exact b3
          · exact i3 y hy
        · rw [List.map_cons]
          refine List.nodup_cons.2 ⟨fun hm => b1 ?_, i5⟩
          rw [i7, hl1] at hm
          obtain ⟨l', hl', e'⟩ := List.mem_map.1 hm
          rw [i6, ← encStr_inj e']
          exact List.mem_map_of_mem hl'
        · rcases List.mem_cons.1 hy with rfl | hy
          · simpa [nats] using b4
          · exact i8 y hy
    · cases h

theorem sortedI_ok {f : FuncId} {e0 k0 : TypeId} {it : FuncId → Bool} (S : SortedOk P f e0) (hk0 : P.underlying k0 = some .string) (hit : ∀ g, it g = true → IterOk P g k0)
    (args : List EV) (h : EH) (v : EV) (h' : EH) (hx : sortedI e0 it args h = some (v, h')) (ρ : Ren) (w : World) (args' : Array Value) (hr : Rel P ρ h w) (ha : VRels ρ args args'.toList) : CallOk P f args' w (CPost P ρ h w v h') := by
  unfold sortedI at hx
  split at hx
  rotate_left
  · cases hx
  rename_i g bx
  split at hx
  rotate_left
  · cases hx
  rename_i m hig hcell
  split at hcell
  rotate_left
  · cases hcell
  rename_i cb eb hgb
  split at hx
  rotate_left
  · cases hx
  rename_i es clock hm
  split at hx
  rotate_left
  · cases hx
  rename_i ks bs hks
  have hI := hit g hig
  obtain ⟨v1, rfl⟩ : ∃ v1, args' = #[v1] := by
    have h1 := ha.length
    match args', h1 with
    | ⟨[a]⟩, _ => exact ⟨a, rfl⟩
  cases ha with | cons _ _ _ _ ha1 ha2 => ?_
  cases ha1 with | func _ _ _ fi ca hn hf1 hc1 => ?_
  obtain rfl : fi = #[] := by
    have := hf1.length
    exact Array.eq_empty_of_size_eq_zero (by simpa using this.symm)
  obtain ⟨c1, rfl⟩ : ∃ c1, ca = #[c1] := by
    have h1 := hc1.length
    match ca, h1 with
    | ⟨[a]⟩, _ => exact ⟨a, rfl⟩
  cases hc1 with | cons _ _ _ _ hc1 _ => ?_
  cases hc1 with | ptr _ _ L hL => ?_
  obtain ⟨cc, fr, p1, p2, p3, p4, p5⟩ := hr.live bx _ L hgb hL
  obtain ⟨hsh, _⟩ := p3 rfl
  obtain ⟨vb, hvb, hvr, _⟩ := p5 0 _ hcell
  cases hvr with | map _ M hM => ?_
  rw [hsh] at hvb
  obtain ⟨es', q1, q2⟩ := hr.live m _ M hm hM
  obtain ⟨i1, i2, i3, i4, i5, ls, i6, i7, i8⟩ := keysK_spec q2 hks
  let R : Value → Option (DataW Unit × List MemPlace) := fun _ => some (.nil, [])
  let D0 : DataW Unit := .map ((es'.toList.map (WideElems.rg P k0 R)).foldr DataW.insert [])
  have hbig : Nat.ble ks.length 100000 = true := by
    cases hb : Nat.ble ks.length 100000 with
    | false => rw [hb] at hx; cases hx
    | true => rfl
  rw [hbig] at hx
  have hbig := Nat.le_of_ble_eq_true hbig
  rw [i1, Array.length_toList] at hbig
  have hlen : ls.length = es'.size := by
    have := congrArg List.length i7
    simpa using this.symm
  have hrd : ∀ x ∈ es'.toList, ∃ l : List UInt8, l.length ≤ 1000000 ∧ x.key = encStr l ∧ WideElems.rd P k0 R x = some (.string l, .nil) := by
    intro x hxm
    have : x.key ∈ ls.map encStr := by rw [← i7]; exact List.mem_map_of_mem hxm
    obtain ⟨l, hl, he⟩ := List.mem_map.1 this
    refine ⟨l, i8 l hl, he.symm, ?_⟩
    have hkey : keyOf P k0 (encStr l) = some (.string l) := by
      have h8 := i8 l hl
      have : l.length ≤ maxLen := by unfold maxLen; omega
      simp [keyOf, hk0, mapKey, encStr, ByteArray.size, this]
    unfold WideElems.rd
    rw [← he, hkey]
    rfl
  have hfit : WideElems.Fit P k0 R es' clock :=
    ⟨by unfold maxLen; omega, ⟨i3, by rw [← i2]; exact i4, i5⟩, fun x hxm => let ⟨l, _, _, h3⟩ := hrd x hxm; ⟨_, h3⟩⟩
  have hkeys : (strKeys D0).Perm ls := by
    have h1 : (strKeys D0).Perm ((es'.toList.map (WideElems.rg P k0 R)).map fun p => strOf p.1) := (WideShapes.sorted_perm _).map _
    refine h1.trans (List.Perm.of_eq ?_)
    rw [List.map_map]
    have h2 : es'.toList.map ((fun p : Lit × DataW Unit => strOf p.1) ∘ WideElems.rg P k0 R) = es'.toList.map (fun x => strOf (WideElems.rg P k0 R x).1) := rfl
    rw [h2]
    have h3 : (es'.toList.map fun x => encStr (strOf (WideElems.rg P k0 R x).1)) = es'.toList.map (·.key) :=
      List.map_congr_left fun x hxm => by
        obtain ⟨l, _, e1, e2⟩ := hrd x hxm
        rw [WideElems.rg_of e2, e1]; rfl
    have h4 : ((es'.toList.map fun x => strOf (WideElems.rg P k0 R x).1).map encStr) = ls.map encStr := by
      rw [List.map_map, ← i7, ← h3]; rfl
    exact (List.map_inj_right (fun _ _ e => encStr_inj e)).1 h4
  have hown : w.ownsMap P k0 R M.b es'.size D0 := ⟨es', clock, q1, hfit, Nat.le_refl _, rfl⟩
  have hsz : Maps.size D0 = es'.size := by
    show ((es'.toList.map (WideElems.rg P k0 R)).foldr DataW.insert []).length = _
    rw [length_sorted]; simp
  have hcall := S.run g #[.pointer (some ⟨L.b, 0, none⟩)] hI.enter (fun ss => ss.Perm (strKeys D0)) (Maps.size D0) (by rw [hsz]; unfold maxLen; omega) (by rw [hsz]; omega) w
    (hI.gives L.b M.b es'.size D0 R w (hr.dom _ _ hL).2 (by rw [Eng.cell_row p1]; exact hvb) hown)
  have hargs : (#[.func (.func g) #[] #[.pointer (some ⟨L.b, L.sh + 0, none⟩)]] : Array Value) = #[.func (.func g) #[] #[.pointer (some ⟨L.b, 0, none⟩)]] := by rw [hsh]
  rw [hargs]
  refine .inl ⟨S.enter _ _, fun nd => callsIn_wide.2 ((callsIn_wide.1 hcall).mono ?_)⟩
  rintro e w' ⟨v', ss, rfl, hS, hrow, hnil, hb⟩
  refine ⟨v', rfl, ?_⟩
  have hlss : ss.length = ks.length := by
    rw [(hS.trans hkeys).length_eq, hlen, i1, Array.length_toList]
  have hsort := sortK_eq (hS.trans hkeys)
  rw [← i6] at hsort
  split at hx
  · cases hx
    have hss : ss = [] := List.eq_nil_of_length_eq_zero (by simpa using hlss)
    obtain rfl := hnil.2 hss
    exact ⟨ρ, .nilSlice, hr.of_kept hb.size hb.block, { le := ρ.le_refl, next := Nat.le_refl _, names := fun _ _ e => .inl e, os := hb.os, tape := hb.tape, output := hb.output, size := hb.size, kept := fun b hbl _ => hb.block b hbl, gets := fun _ o e => .inl ⟨o, e⟩, loops := fun b r e => ⟨r, by rw [hb.block b (Array.getElem?_eq_some_iff.1 e).1]; exact e⟩, sub := fun n o L h1 h2 _ => ⟨n, o, L, h1, h2, rfl⟩ }⟩
  · rename_i hne
    cases hx
    obtain ⟨r0, x0⟩ := hr.reserve (fun _ => False) (k := h.next + 1) (Nat.le_succ _)
    have hnone := hr.fresh (n := h.next) (Nat.le_refl _)
    obtain ⟨hxl, hrow⟩ := hrow
    rcases hrow with ⟨rfl, hz⟩ | ⟨gb, cap, cur, rfl, hbase, hgb', r1, r2, r3, r4⟩
    · exact absurd (List.eq_nil_of_length_eq_zero (by omega)) hne
    · obtain ⟨k1, k2⟩ := Rel.newAt (nm := h.next) (g := gb) (sz := cap) (o := .cells (rowOf ((sortK ks).map EV.str)) e0 false) r0 hnone (Nat.lt_succ_self _) hb hbase hgb'
        ⟨cur, (0, 0), rfl, by rw [r3, Nat.mul_one], (fun h => by cases h), .inl rfl, by
          intro k ev hk
          have hk' := rowOf_get hk
          rw [hsort, List.map_map, List.getElem?_map] at hk'
          obtain ⟨l, hl, rfl⟩ := Option.map_eq_some_iff.1 hk'
          refine ⟨encStr l, ?_, .str _ _ rfl, rfl⟩
          have : (cur.toList.take (ss.length * 1))[k]? = some (encStr l) := by
            rw [r4, List.getElem?_map, hl]; rfl
          rw [List.getElem?_take] at this
          split at this
          · rw [Nat.zero_add, ← Array.getElem?_toList]; exact this
          · cases this⟩
      rw [hlss] at *
      exact cpost_new hr (.slice _ _ _ _ _ ⟨gb, 0, cap⟩ 0 cap (Ren.put_same _ _ _) r1 (.wide (by unfold maxLen at r2; omega)) (.inr ⟨rfl, by simp⟩)) k1 k2
end Go.Eng

namespace Go.Eng
open Go Go.RowKit
variable [Syms]

variable {P : Program} {ρ : Ren} {h : EH} {w w' : World}

/-! Calls that turn nothing, and hand back no pointers: a contract at the model's level as an intrinsic. -/

theorem Rel.below (hr : Rel P ρ h w) (hb : Below w.heap.size w w') : Rel P ρ h w' where
  live n o L hg hL := by rw [hb.block L.b (hr.dom n L hL).2]; exact hr.live n o L hg hL
  inj := hr.inj
  dom n L hL := ⟨(hr.dom n L hL).1, Nat.lt_of_lt_of_le (hr.dom n L hL).2 hb.size⟩
  low := hr.low
  pin := hr.pin.kept hb.block

theorem cpost_below {v : EV} {v' : Value} (hr : Rel P ρ h w) (hb : Below w.heap.size w w') (hv : VRel ρ v v') : CPost P ρ h w v h v' w' :=
  ⟨ρ, hv, hr.below hb, {
    le := Ren.le_refl _
    next := Nat.le_refl _
    names := fun _ _ e => .inl e
    os := hb.os
    tape := hb.tape
    output := hb.output
    size := hb.size
    kept := fun b hlt _ => hb.block b hlt
    gets := fun _ o e => .inl ⟨o, e⟩
    loops := fun b r e => ⟨r, by
      have hlt : b < w.heap.size := (Array.getElem?_eq_some_iff.1 e).1
      rw [hb.block b hlt]; exact e⟩
    sub := fun n o L hg hL _ => ⟨n, o, L, hg, hL, rfl⟩ }⟩

/-- A function of one text that hands back two numbers. -/
noncomputable def textI (F : ByteArray → Nat × Nat) (args : List EV) (h : EH) : Option (EV × EH) :=
  match args with
  | [.str l] => cond (Nat.ble l.length 1000000) (some (.agg [.int .i64 ((F (bytesOf l)).1 : Int), .int .i64 ((F (bytesOf l)).2 : Int)], h)) none
  | _ => none

theorem textI_ok {F : ByteArray → Nat × Nat} {g : FuncId} (enter : ∀ args w, (callFunc g args).run P w = .ok (.enter g args) w) (hc : ∀ (s : ByteArray) (w : World), s.size ≤ 8796093022207 → Calls P g #[.string s] w fun e w' => e = .returned (.agg #[.int .i64 ((F s).1 : Int), .int .i64 ((F s).2 : Int)]) ∧ Below w.heap.size w w') : IntrOk P g (textI F) := by
  intro args h v h' hx ρ w args' hr ha
  unfold textI at hx
  split at hx
  · rename_i l
    cases hb : Nat.ble l.length 1000000 with
    | false => rw [hb] at hx; cases hx
    | true =>
      rw [hb] at hx
      cases hx
      obtain ⟨al⟩ := args'
      cases ha with
      | cons _ v0 _ vs hv hs =>
        cases hs
        cases hv with
        | str s _ hs =>
          subst hs
          have hle := Nat.le_of_ble_eq_true hb
          rw [ofBytes_length] at hle
          refine .inl ⟨enter _ _, fun nd => callsIn_wide.2 ((hc s w (by omega)).mono fun e w' hq => ?_)⟩
          obtain ⟨rfl, hbw⟩ := hq
          rw [bytesOf_of]
          exact ⟨_, rfl, cpost_below hr hbw (.agg _ _ (.cons _ _ _ _ (.int _ _) (.cons _ _ _ _ (.int _ _) .nil)))⟩
  · cases hx
end Go.Eng

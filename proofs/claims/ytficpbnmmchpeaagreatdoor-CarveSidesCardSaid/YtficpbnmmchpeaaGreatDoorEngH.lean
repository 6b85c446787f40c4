/- A part of the proof of CarveSides: a verified interpreter of the model's own code, its soundness, and contracts of the library's functions. Conditions: none. -/
import Derived.Test.YtficpbnmmchpeaaGreatDoorEngG
namespace Go.Eng
open Go

variable {P : Program} {tb : Tab} {ex : Ex} {ops : Array Oper} {base : Nat}

mutual
theorem EV.eqb_eq : ∀ (a b : EV), EV.eqb a b = true → a = b
  | .bool a, b, h => by cases b <;> simp [EV.eqb] at h ⊢; exact h
  | .int j a, b, h => by cases b <;> simp [EV.eqb] at h ⊢; exact h
  | .str a, b, h => by cases b <;> simp [EV.eqb, strEq_eq] at h ⊢; exact h
  | .ptr m o, b, h => by
    cases b <;> simp [EV.eqb] at h ⊢
    exact ⟨h.1, h.2⟩
  | .nilPtr, b, h => by cases b <;> simp [EV.eqb] at h ⊢
  | .slice n o l c e, b, h => by
    cases b <;> simp [EV.eqb] at h ⊢
    exact ⟨h.1.1.1.1, h.1.1.1.2, h.1.1.2, h.1.2, h.2⟩
  | .nilSlice, b, h => by cases b <;> simp [EV.eqb] at h ⊢
  | .map m, b, h => by cases b <;> simp [EV.eqb] at h ⊢; exact h
  | .nilMap, b, h => by cases b <;> simp [EV.eqb] at h ⊢
  | .func f x y, b, h => by
    cases b <;> simp [EV.eqb] at h ⊢
    exact ⟨h.1.1, EV.eqbs_eq x _ h.1.2, EV.eqbs_eq y _ h.2⟩
  | .nilFunc, b, h => by cases b <;> simp [EV.eqb] at h ⊢
  | .iface t v, b, h => by
    cases b <;> simp [EV.eqb] at h ⊢
    exact ⟨h.1, EV.eqb_eq v _ h.2⟩
  | .nilIface, b, h => by cases b <;> simp [EV.eqb] at h ⊢
  | .agg x, b, h => by cases b <;> simp [EV.eqb] at h ⊢; exact EV.eqbs_eq x _ h
  | .tuple x, b, h => by cases b <;> simp [EV.eqb] at h ⊢; exact EV.eqbs_eq x _ h
  | .sym n, b, h => by cases b <;> simp [EV.eqb] at h ⊢; exact h
theorem EV.eqbs_eq : ∀ (a b : List EV), EV.eqbs a b = true → a = b
  | [], b, h => by cases b <;> simp [EV.eqbs] at h ⊢
  | x :: a, b, h => by
    cases b <;> simp [EV.eqbs] at h ⊢
    exact ⟨EV.eqb_eq x _ h.1, EV.eqbs_eq a _ h.2⟩
end

variable [Syms]

/-- The temporaries stand in an order; the edges bind to earlier operations. -/
structure NamesOk (ops : Array Oper) : Prop where
  edge : EdgesOk ops
  names : ∀ i o, ops[i]? = some o → ∀ t ∈ opTmps ops o, ∀ k, Wr ops k t → k ≠ i → (k < i → Bef ops i k) ∧ (i < k → Bef ops k i)

omit [Syms] in
theorem alone_spec {bef : List Nat} {j : Nat} {t : Tmp} : ∀ {l : List Oper} {i : Nat}, alone bef j t l i = true → ∀ k p, l[k]? = some p → p.dst = some t → i + k = j ∨ Nat.testBit (bef.getD (max (i + k) j) 0) (min (i + k) j) = true
  | [], i, h, k, p, hk, hd => by simp at hk
  | q :: l, i, h, k, p, hk, hd => by
    simp only [alone, Bool.and_eq_true] at h
    cases k with
    | zero =>
      simp at hk
      subst hk
      have h1 := h.1
      rw [hd] at h1
      simp only at h1
      have hbt : Nat.beq t t = true := Nat.beq_refl t
      rw [hbt] at h1
      simp only [cond_true, Bool.or_eq_true] at h1
      rcases h1 with h1 | h1
      · exact .inl (Nat.eq_of_beq_eq_true h1)
      · exact .inr h1
    | succ k =>
      have := alone_spec h.2 k p (by simpa using hk) hd
      rw [show Nat.add i 1 = i + 1 from rfl, show i + 1 + k = i + (k + 1) by omega] at this
      exact this

omit [Syms] in
theorem namesOk_spec {bef : List Nat} {all : List Oper} : ∀ {l : List Oper} {j : Nat}, namesOk bef ops all l j = true → ∀ k o, l[k]? = some o → (∀ t ∈ opTmps ops o, alone bef (j + k) t all 0 = true) ∧ ∀ e ∈ o.after, Region.binds .any e = true → e.on < j + k
  | [], j, h, k, o, hk => by simp at hk
  | q :: l, j, h, k, o, hk => by
    simp only [namesOk, Bool.and_eq_true] at h
    obtain ⟨⟨⟨h1, h2⟩, h3⟩, h4⟩ := h
    cases k with
    | zero =>
      simp at hk
      subst hk
      refine ⟨fun t ht => ?_, fun e he hb => ?_⟩
      · exact List.all_eq_true.1 h1 t ht
      · have := List.all_eq_true.1 h3 e (by simpa using he)
        rw [hb] at this
        simp only [Bool.not_true, Bool.false_or] at this
        have h5 : e.on + 1 ≤ j := Nat.le_of_ble_eq_true this
        omega
    | succ k =>
      have := namesOk_spec h4 k o (by simpa using hk)
      rw [show Nat.add j 1 = j + 1 from rfl, show j + 1 + k = j + (k + 1) by omega] at this
      exact this

omit [Syms] in
theorem names_ok (h : namesOk (Region.before ops).toList ops ops.toList ops.toList 0 = true) : NamesOk ops where
  edge i o ho e he hb := by
    have := (namesOk_spec h i o (by simpa using ho)).2 e he hb
    omega
  names i o ho t ht k hw hne := by
    obtain ⟨p, hp, hd⟩ := hw
    have h1 := (namesOk_spec h i o (by simpa using ho)).1 t ht
    rw [Nat.zero_add] at h1
    rcases alone_spec h1 k p (by simpa using hp) hd with h2 | h2
    · omega
    · rw [Nat.zero_add] at h2
      refine ⟨fun hlt => ?_, fun hlt => ?_⟩
      · rw [Nat.max_eq_right (by omega), Nat.min_eq_left (by omega)] at h2; exact h2
      · rw [Nat.max_eq_left (by omega), Nat.min_eq_right (by omega)] at h2; exact h2

/-! ### The invariant -/

def In (listed : Array Bool) (i : Nat) : Prop := listed.getD i false = true

omit [Syms] in
theorem In.set {listed : Array Bool} {i j : Nat} (hi : i < listed.size) : In (listed.setIfInBounds i true) j ↔ j = i ∨ In listed j := by
  unfold In
  simp only [Array.getD_eq_getD_getElem?, Array.getElem?_setIfInBounds]
  by_cases h : i = j
  · subst h; simp [hi]
  · rw [if_neg h]
    constructor
    · exact .inr
    · rintro (rfl | h2)
      · exact absurd rfl h
      · exact h2

structure Inv (P : Program) (ops : Array Oper) (base : Nat) (D : Nat → Dr) (C : Nat → Cl) (f0 : Fr) (h0 : EH) (ρ0 : Ren) (hs : EH) (w0 : World) (ds0 : List Deferred) (ρ : Ren) (m : Nat) (listed : Array Bool) (a : Act) (w : World) : Prop where
  size : listed.size = ops.size
  closed : ∀ i o, In listed i → ops[i]? = some o → ∀ e ∈ o.after, Region.binds .any e = true → In listed e.on
  mle : m ≤ (Txt.E ops D).length
  eff : ∀ k i, (Txt.E ops D)[k]? = some i → (In listed i ↔ k < m)
  rel : Rel P ρ (Txt.H ops D h0 m) w
  al : ∀ i v ob, In listed i → C i = .alloc v ob → m ≤ Txt.lev D i → ∃ L, ρ (base + i) = some L ∧ w0.heap.size ≤ L.b ∧ ORel P ρ L ob w.heap[L.b]? ∧ ∀ n o L', (Txt.H ops D h0 m).get n = some o → ρ n = some L' → L'.b ≠ L.b
  al2 : ∀ i j v ob v' ob', In listed i → In listed j → C i = .alloc v ob → C j = .alloc v' ob' → m ≤ Txt.lev D i → m ≤ Txt.lev D j → i ≠ j → ∀ L L', ρ (base + i) = some L → ρ (base + j) = some L' → L.b ≠ L'.b
  fresh : ∀ i, i < ops.size → ¬ In listed i → ρ (base + i) = none
  tm : a.tmps.size = f0.n ∧ ∀ t e, ((∃ j, In listed j ∧ Wr ops j t ∧ (∀ j', In listed j' → Wr ops j' t → j' ≤ j) ∧ (C j).out = some e) ∨ ((∀ j, In listed j → ¬ Wr ops j t) ∧ f0.get t = some e)) → ∃ v, a.tmps[t]? = some v ∧ VRel ρ e v
  ext : Extd (base ≤ ·) ρ0 hs w0 ρ (Txt.H ops D h0 m) w
  gets : ∀ n o, (Txt.H ops D h0 m).get n = some o → n < base ∨ base + ops.size ≤ n ∨ ∃ j, n = base + j ∧ j < ops.size ∧ ((C j).isEff = true ∨ ∃ v ob, C j = .alloc v ob ∧ Txt.lev D j < m)
  df : a.defers = ds0
  next : base + ops.size ≤ (Txt.H ops D h0 m).next

section inv
variable {bef : List Nat} {d0 : Dr} {D : Nat → Dr} {C : Nat → Cl} {f0 : Fr} {h0 : EH} {ρ0 : Ren} {hs : EH} {w0 : World} {ds0 : List Deferred} {ρ : Ren} {m : Nat} {listed : Array Bool} {a : Act} {w : World}

/-- The heap of the text, ahead of an operation that stands behind as many effects as were done. -/
theorem Inv.joined (I : Inv P ops base D C f0 h0 ρ0 hs w0 ds0 ρ m listed a w) (T : Txt tb ex ops bef base d0 D C) (S : Start d0 f0 h0) {i : Nat} (hi : i ≤ ops.size) (hl : Txt.lev D i = m) :
    Rel P ρ (D i).h w ∧ Extd (base ≤ ·) ρ0 hs w0 ρ (D i).h w := by
  obtain ⟨g1, g2⟩ := T.heap S i hi
  rw [hl] at g1 g2
  have cs : ∀ n x L, (D i).h.get n = some x → ρ n = some L → ((Txt.H ops D h0 m).get n = some x) ∨ ∃ j v, j < ops.size ∧ In listed j ∧ C j = .alloc v x ∧ Txt.lev D j = m ∧ n = base + j ∧ w0.heap.size ≤ L.b ∧ ORel P ρ L x w.heap[L.b]? ∧ (∀ n o L', (Txt.H ops D h0 m).get n = some o → ρ n = some L' → L'.b ≠ L.b) := by
    intro n x L h1 h2
    rcases g2 n x h1 with h | ⟨j, v, a1, a2, a3, rfl⟩
    · exact .inl h
    · refine .inr ⟨j, v, by omega, ?_⟩
      have hin : In listed j := by
        by_cases hin : In listed j
        · exact hin
        · rw [I.fresh j (by omega) hin] at h2; cases h2
      obtain ⟨L2, q1, q2, q3, q4⟩ := I.al j v x hin a2 (by omega)
      rw [h2] at q1
      cases q1
      exact ⟨hin, a2, a3, rfl, q2, q3, q4⟩
  refine ⟨⟨fun n x L h1 h2 => ?_, fun n n' x x' L L' h1 h2 h3 h4 h5 => ?_, fun n L h => ?_, fun n x h => ?_, I.rel.pin⟩, ?_⟩
  · rcases cs n x L h1 h2 with h | ⟨j, v, _, _, _, _, _, _, q, _⟩
    · exact I.rel.live n x L h h2
    · exact q
  · rcases cs n x L h1 h3 with h | ⟨j, v, b1, b2, b3, b4, b5, b6, b7, b8⟩ <;> rcases cs n' x' L' h2 h4 with h' | ⟨j', v', c1, c2, c3, c4, c5, c6, c7, c8⟩
    · exact I.rel.inj _ _ _ _ _ _ h h' h3 h4 h5
    · exact absurd h5 (c8 n x L h h3)
    · exact absurd h5.symm (b8 n' x' L' h' h4)
    · by_cases hj : j = j'
      · rw [b5, c5, hj]
      · subst b5 c5
        exact absurd h5 (I.al2 j j' v x v' x' b2 c2 b3 c3 (by omega) (by omega) hj L L' h3 h4)
  · rw [g1]; exact I.rel.dom n L h
  · rw [g1]
    rcases g2 n x h with h | ⟨j, v, a1, _, _, rfl⟩
    · exact I.rel.low n x h
    · have := I.next; omega
  · refine { I.ext with next := ?_, gets := ?_, sub := ?_ }
    · rw [g1]; exact I.ext.next
    · intro n x h
      rcases g2 n x h with h | ⟨j, v, a1, _, _, rfl⟩
      · exact I.ext.gets n x h
      · exact .inr (Nat.le_add_right _ _)
    · intro n x L h1 h2 h3
      rcases cs n x L h1 h2 with h | ⟨j, v, _, _, _, _, _, q, _⟩
      · exact I.ext.sub n x L h h2 h3
      · omega

/-- The operands of an operation that is ready. -/
theorem Inv.frame (I : Inv P ops base D C f0 h0 ρ0 hs w0 ds0 ρ m listed a w) (N : NamesOk ops) (T : Txt tb ex ops bef base d0 D C) (S : Start d0 f0 h0) {i : Nat} {o : Oper} (ho : ops[i]? = some o) (hn : ¬ In listed i)
    (hrd : ∀ e ∈ o.after, Region.binds .any e = true → In listed e.on) : FRel ρ ((D i).f.keep fun t => decide (t ∈ opTmps ops o)) a.tmps := by
  have hi := (Array.getElem?_eq_some_iff.1 ho).1
  obtain ⟨g1, g2⟩ := T.frames S i (by omega)
  refine ⟨I.tm.1.trans g1.symm, fun t e he => ?_⟩
  rw [Fr.get_keep] at he
  by_cases ht : t ∈ opTmps ops o
  · rw [if_pos (by simpa using ht)] at he
    have later : ∀ j', In listed j' → Wr ops j' t → i < j' → False := fun j' h1 h2 h3 => by
      have hb := (N.names i o ho t ht j' h2 (by omega)).2 h3
      exact hn (bef_closed N.edge I.closed j' i h1 hb)
    refine I.tm.2 t e ?_
    rcases g2 t e he with ⟨j, h1, h2, h3, h4⟩ | ⟨h1, h2⟩
    · refine .inl ⟨j, ?_, h2, fun j' h5 h6 => ?_, h3⟩
      · exact bef_ready N.edge I.closed ho hrd ((N.names i o ho t ht j h2 (by omega)).1 h1)
      · by_cases hle : j' ≤ j
        · exact hle
        · exfalso
          by_cases hlt : j' < i
          · exact h4 j' (by omega) hlt h6
          · by_cases he2 : j' = i
            · subst he2; exact hn h5
            · exact later j' h5 h6 (by omega)
    · refine .inr ⟨fun j h3 h4 => ?_, h2⟩
      by_cases hlt : j < i
      · exact h1 j hlt h4
      · by_cases he2 : j = i
        · subst he2; exact hn h3
        · exact later j h3 h4 (by omega)
  · rw [if_neg (by simpa using ht)] at he
    cases he

/-- The temporaries behind an operation. -/
theorem Inv.put (I : Inv P ops base D C f0 h0 ρ0 hs w0 ds0 ρ m listed a w) (N : NamesOk ops) (T : Txt tb ex ops bef base d0 D C) (S : Start d0 f0 h0) {i : Nat} {o : Oper} (ho : ops[i]? = some o) (hn : ¬ In listed i) {ρ' : Ren} (hle : ρ.le ρ') {v' : Value}
    (hv : ∀ e, (C i).out = some e → VRel ρ' e v') : (a.put o.dst v').tmps.size = f0.n ∧ ∀ t e, ((∃ j, In (listed.setIfInBounds i true) j ∧ Wr ops j t ∧ (∀ j', In (listed.setIfInBounds i true) j' → Wr ops j' t → j' ≤ j) ∧ (C j).out = some e) ∨ ((∀ j, In (listed.setIfInBounds i true) j → ¬ Wr ops j t) ∧ f0.get t = some e)) → ∃ v, (a.put o.dst v').tmps[t]? = some v ∧ VRel ρ' e v := by
  have hi := (Array.getElem?_eq_some_iff.1 ho).1
  have hil : i < listed.size := by rw [I.size]; exact hi
  have hset : ∀ j, In (listed.setIfInBounds i true) j ↔ j = i ∨ In listed j := fun j => In.set hil
  have hsz : (a.put o.dst v').tmps.size = a.tmps.size := by cases o.dst <;> simp [Act.put]
  have hoth : ∀ t, o.dst ≠ some t → (a.put o.dst v').tmps[t]? = a.tmps[t]? := by
    intro t ht
    cases hd : o.dst with
    | none => rfl
    | some d =>
      simp only [Act.put, Array.getElem?_setIfInBounds]
      rw [if_neg (fun e => ht (by rw [hd, e]))]
  refine ⟨hsz.trans I.tm.1, fun t e h => ?_⟩
  rcases h with ⟨j, h1, h2, h3, h4⟩ | ⟨h1, h2⟩
  · rw [hset] at h1
    by_cases hji : j = i
    · subst hji
      obtain ⟨o', ho', hd⟩ := h2
      rw [ho] at ho'
      cases ho'
      refine ⟨v', ?_, hv e h4⟩
      have hdst := T.dst ho
      rw [h4, hd] at hdst
      simp only [setDst, Fr.put] at hdst
      cases hb : Nat.blt t (D j).f.n with
      | false => rw [hb] at hdst; cases hdst
      | true =>
        have hlt : t < (D j).f.n := Nat.le_of_ble_eq_true hb
        have : t < a.tmps.size := by rw [I.tm.1, ← (T.frames S j (by omega)).1]; exact hlt
        rw [hd]
        simp [Act.put, this]
    · have hin : In listed j := h1.resolve_left hji
      have hne : o.dst ≠ some t := by
        intro hd
        have hw : Wr ops i t := ⟨o, ho, hd⟩
        have hij := h3 i ((hset i).2 (.inl rfl)) hw
        have hb := (N.names i o ho t (by simp [opTmps, hd]) j h2 hji).2 (by omega)
        exact hn (bef_closed N.edge I.closed j i hin hb)
      obtain ⟨v, q1, q2⟩ := I.tm.2 t e (.inl ⟨j, hin, h2, fun j' a b => h3 j' ((hset j').2 (.inr a)) b, h4⟩)
      exact ⟨v, (hoth t hne).trans q1, q2.mono hle⟩
  · have hne : o.dst ≠ some t := fun hd => h1 i ((hset i).2 (.inl rfl)) ⟨o, ho, hd⟩
    obtain ⟨v, q1, q2⟩ := I.tm.2 t e (.inr ⟨fun j a => h1 j ((hset j).2 (.inr a)), h2⟩)
    exact ⟨v, (hoth t hne).trans q1, q2.mono hle⟩

end inv
end Go.Eng

namespace Go.Eng
open Go
variable [Syms]

variable {P : Program} {tb : Tab} {ex : Ex} {ops : Array Oper} {base : Nat}
variable {d0 : Dr} {D : Nat → Dr} {C : Nat → Cl} {f0 : Fr} {h0 : EH} {ρ0 : Ren} {hs : EH} {w0 : World} {ds0 : List Deferred} {ρ : Ren} {m : Nat} {listed : Array Bool} {a : Act} {w : World}

/-- What drawE looked at, of memory that is made and of readers. -/
structure Checks (tb : Tab) (ops : Array Oper) (D : Nat → Dr) (C : Nat → Cl) (h0 : EH) : Prop where
  al : ∀ i v ob, i < ops.size → C i = .alloc v ob → ∀ k e, Txt.lev D i ≤ k → (Txt.E ops D)[k]? = some e → Bef ops e i
  rd : ∀ i o v, ops[i]? = some o → C i = .quiet true v → ∀ k, k ≤ (Txt.E ops D).length → k ≠ Txt.lev D i → (∀ k' e, k ≤ k' → (Txt.E ops D)[k']? = some e → ¬ Bef ops i e) → (∀ k' e, k' < k → (Txt.E ops D)[k']? = some e → ¬ Bef ops e i) →
    ∃ w h2, opE tb (Txt.H ops D h0 k) 0 (D i).f o = some (.val w h2) ∧ v = w

/-- A temporary more is known, nothing else. -/
theorem Inv.quiet (I : Inv P ops base D C f0 h0 ρ0 hs w0 ds0 ρ m listed a w) (N : NamesOk ops) {bef : List Nat} (T : Txt tb ex ops bef base d0 D C) (S : Start d0 f0 h0) {i : Nat} {o : Oper} (ho : ops[i]? = some o) (hn : ¬ In listed i)
    (hrd : ∀ e ∈ o.after, Region.binds .any e = true → In listed e.on) (hne : (C i).isEff = false) (hna : ∀ v ob, C i ≠ .alloc v ob) {v' : Value} (hv : ∀ e, (C i).out = some e → VRel ρ e v') :
    Inv P ops base D C f0 h0 ρ0 hs w0 ds0 ρ m (listed.setIfInBounds i true) (a.put o.dst v') w := by
  have hi := (Array.getElem?_eq_some_iff.1 ho).1
  have hil : i < listed.size := by rw [I.size]; exact hi
  have hset : ∀ j, In (listed.setIfInBounds i true) j ↔ j = i ∨ In listed j := fun j => In.set hil
  refine { I with size := ?_, closed := ?_, eff := ?_, al := ?_, al2 := ?_, fresh := ?_, tm := I.put N T S ho hn ρ.le_refl hv, df := by rw [put_defers]; exact I.df }
  · simp [I.size]
  · intro j o' hj ho' e he hb
    rw [hset] at hj ⊢
    rcases hj with rfl | hj
    · rw [ho] at ho'; cases ho'; exact .inr (hrd e he hb)
    · exact .inr (I.closed j o' hj ho' e he hb)
  · intro k e he
    rw [hset]
    have : e ≠ i := fun h => by
      have := (T.E_of S he).2.1
      rw [h, hne] at this; cases this
    rw [← I.eff k e he]
    simp [this]
  · intro j v ob hj hc hm
    rw [hset] at hj
    rcases hj with rfl | hj
    · exact absurd hc (hna v ob)
    · exact I.al j v ob hj hc hm
  · intro j j' v ob v' ob' hj hj' hc hc' hm hm' hne
    rw [hset] at hj hj'
    rcases hj with rfl | hj
    · exact absurd hc (hna v ob)
    · rcases hj' with rfl | hj'
      · exact absurd hc' (hna v' ob')
      · exact I.al2 j j' v ob v' ob' hj hj' hc hc' hm hm' hne
  · intro j hj hnj
    exact I.fresh j hj fun h => hnj ((hset j).2 (.inr h))

theorem big (I : Inv P ops base D C f0 h0 ρ0 hs w0 ds0 ρ m listed a w) : base + ops.size ≤ (Txt.H ops D h0 m).next := I.next

/-- A memory-making operation, done in a world. -/
theorem Inv.alloc (I : Inv P ops base D C f0 h0 ρ0 hs w0 ds0 ρ m listed a w) (N : NamesOk ops) (K : Checks tb ops D C h0) (T : Txt tb ex ops (Region.before ops).toList base d0 D C) (S : Start d0 f0 h0) {i : Nat} {o : Oper} (ho : ops[i]? = some o) (hn : ¬ In listed i)
    (hrd : ∀ e ∈ o.after, Region.binds .any e = true → In listed e.on) {v : EV} {ob : EO} (hc : C i = .alloc v ob) {ρ' : Ren} {w' : World} {v' : Value} {L : Loc} (hv : VRel ρ' v v') (hL : ρ' (base + i) = some L) (hob : ORel P ρ' L ob w'.heap[L.b]?) (hb : w.heap.size ≤ L.b) (hb' : L.b < w'.heap.size)
    (hle : ρ.le ρ') (hnames : ∀ n L, ρ' n = some L → ρ n = some L ∨ n = base + i) (hold : ∀ b, b < w.heap.size → w'.heap[b]? = w.heap[b]?) (hsz : w.heap.size ≤ w'.heap.size) (hos : w'.os = w.os) (htp : w'.tape = w.tape) (hou : w'.output = w.output) :
    Inv P ops base D C f0 h0 ρ0 hs w0 ds0 ρ' m (listed.setIfInBounds i true) (a.put o.dst v') w' := by
  have hi := (Array.getElem?_eq_some_iff.1 ho).1
  have hil : i < listed.size := by rw [I.size]; exact hi
  have hset : ∀ j, In (listed.setIfInBounds i true) j ↔ j = i ∨ In listed j := fun j => In.set hil
  have hne : (C i).isEff = false := by rw [hc]; rfl
  -- the effects that were done stand at most where the text had them
  have hlev : m ≤ Txt.lev D i := by
    by_cases h : m ≤ Txt.lev D i
    · exact h
    · exfalso
      have hlt : Txt.lev D i < (Txt.E ops D).length := by have := I.mle; omega
      have he : (Txt.E ops D)[Txt.lev D i]? = some (Txt.E ops D)[Txt.lev D i] := List.getElem?_eq_getElem hlt
      have h1 := K.al i v ob hi hc _ _ (Nat.le_refl _) he
      have h2 := (I.eff _ _ he).2 (by omega)
      exact hn (bef_closed N.edge I.closed _ _ h2 h1)
  have hnot : ∀ x, (Txt.H ops D h0 m).get (base + i) ≠ some x := by
    intro x hx
    rcases I.gets _ x hx with h | h | ⟨j, h1, h2, h3⟩
    · omega
    · omega
    · have : j = i := by omega
      subst this
      rcases h3 with h3 | ⟨v2, ob2, h3, h4⟩
      · rw [hne] at h3; cases h3
      · omega
  have hback : ∀ n x L', (Txt.H ops D h0 m).get n = some x → ρ' n = some L' → ρ n = some L' := by
    intro n x L' h1 h2
    rcases hnames n L' h2 with h3 | rfl
    · exact h3
    · exact absurd h1 (hnot x)
  have hrel : Rel P ρ' (Txt.H ops D h0 m) w' := by
    refine ⟨fun n x L' h1 h2 => ?_, fun n n' x x' L1 L2 h1 h2 h3 h4 h5 => ?_, fun n L' h => ?_, I.rel.low, (I.rel.pin.names fun n L' h => ?_).kept hold⟩
    · have h3 := hback n x L' h1 h2
      rw [hold _ (I.rel.dom n L' h3).2]
      exact (I.rel.live n x L' h1 h3).mono hle
    · exact I.rel.inj n n' x x' L1 L2 h1 h2 (hback n x L1 h1 h3) (hback n' x' L2 h2 h4) h5
    · rcases hnames n L' h with h3 | rfl
      · have := I.rel.dom n L' h3; exact ⟨this.1, by omega⟩
      · rw [hL] at h; cases h
        exact ⟨by have := I.next; omega, hb'⟩
    · rcases hnames n L' h with h3 | rfl
      · exact .inl ⟨n, L', h3, rfl⟩
      · rw [hL] at h; cases h
        exact .inr hb
  have hstep : Extd (· = base + i) ρ (Txt.H ops D h0 m) w ρ' (Txt.H ops D h0 m) w' := {
    le := hle
    next := Nat.le_refl _
    names := hnames
    os := hos
    tape := htp
    output := hou
    size := hsz
    kept := fun b hb _ => hold b hb
    gets := fun n x h => .inl ⟨x, h⟩
    loops := fun b r e => ⟨r, by rw [hold b (Array.getElem?_eq_some_iff.1 e).1]; exact e⟩
    sub := fun n x L' h1 h2 _ => ⟨n, x, L', h1, hback n x L' h1 h2, rfl⟩ }
  have hal : ∀ j v2 ob2, In listed j → C j = .alloc v2 ob2 → m ≤ Txt.lev D j → ∃ L2, ρ (base + j) = some L2 ∧ ρ' (base + j) = some L2 ∧ L2.b < w.heap.size ∧ w0.heap.size ≤ L2.b ∧ ORel P ρ' L2 ob2 w'.heap[L2.b]? ∧ ∀ n o L', (Txt.H ops D h0 m).get n = some o → ρ' n = some L' → L'.b ≠ L2.b := by
    intro j v2 ob2 hj hcj hm
    obtain ⟨L2, q1, q2, q3, q4⟩ := I.al j v2 ob2 hj hcj hm
    have hd := (I.rel.dom _ _ q1).2
    exact ⟨L2, q1, hle _ _ q1, hd, q2, by rw [hold _ hd]; exact q3.mono hle, fun n o L' h1 h2 => q4 n o L' h1 (hback n o L' h1 h2)⟩
  refine ⟨by simp [I.size], ?_, I.mle, ?_, hrel, ?_, ?_, ?_, I.put N T S ho hn hle (fun e he => by rw [hc] at he; cases he; exact hv), I.ext.trans hstep (fun _ h => h) (fun n hn => by rw [hn]; exact Nat.le_add_right _ _), I.gets, by rw [put_defers]; exact I.df, I.next⟩
  · intro j o' hj ho' e he hb
    rw [hset] at hj ⊢
    rcases hj with rfl | hj
    · rw [ho] at ho'; cases ho'; exact .inr (hrd e he hb)
    · exact .inr (I.closed j o' hj ho' e he hb)
  · intro k e he
    rw [hset]
    have : e ≠ i := fun h => by
      have := (T.E_of S he).2.1
      rw [h, hne] at this; cases this
    rw [← I.eff k e he]
    simp [this]
  · intro j v2 ob2 hj hcj hm
    rw [hset] at hj
    by_cases hji : j = i
    · subst hji
      rw [hc] at hcj; cases hcj
      refine ⟨L, hL, Nat.le_trans I.ext.size hb, hob, fun n x L' h1 h2 => ?_⟩
      have := (I.rel.dom n L' (hback n x L' h1 h2)).2
      omega
    · obtain ⟨L2, q0, q1, _, q2, q3, q4⟩ := hal j v2 ob2 (hj.resolve_left hji) hcj hm
      exact ⟨L2, q1, q2, q3, q4⟩
  · intro j j' v1 ob1 v2 ob2 hj hj' hc1 hc2 hm1 hm2 hne2 L1 L2 h1 h2
    rw [hset] at hj hj'
    by_cases hji : j = i
    · by_cases hji' : j' = i
      · omega
      · subst hji
        obtain ⟨L2', q0, q1, q2, _⟩ := hal j' v2 ob2 (hj'.resolve_left hji') hc2 hm2
        rw [q1] at h2; cases h2
        rw [hL] at h1; cases h1
        omega
    · obtain ⟨L1', p0, p1, p2, _⟩ := hal j v1 ob1 (hj.resolve_left hji) hc1 hm1
      rw [p1] at h1; cases h1
      by_cases hji' : j' = i
      · subst hji'
        rw [hL] at h2; cases h2
        omega
      · obtain ⟨L2', q0, q1, q2, _⟩ := hal j' v2 ob2 (hj'.resolve_left hji') hc2 hm2
        rw [q1] at h2; cases h2
        exact I.al2 j j' v1 ob1 v2 ob2 (hj.resolve_left hji) (hj'.resolve_left hji') hc1 hc2 hm1 hm2 hne2 _ _ p0 q0
  · intro j hj hnj
    have hji : j ≠ i := fun e => hnj ((hset j).2 (.inl e))
    have h1 := I.fresh j hj fun h => hnj ((hset j).2 (.inr h))
    cases hq : ρ' (base + j) with
    | none => rfl
    | some L' =>
      rcases hnames _ L' hq with h2 | h2
      · rw [h1] at h2; cases h2
      · omega

/-- An effect, done in a world. -/
theorem Inv.effect (I : Inv P ops base D C f0 h0 ρ0 hs w0 ds0 ρ m listed a w) (N : NamesOk ops) (T : Txt tb ex ops (Region.before ops).toList base d0 D C) (S : Start d0 f0 h0) {i : Nat} {o : Oper} (ho : ops[i]? = some o) (hn : ¬ In listed i)
    (hrd : ∀ e ∈ o.after, Region.binds .any e = true → In listed e.on) {r : OR} {v : Option EV} (hc : C i = .eff r v) (hlev : Txt.lev D i = m) {ρ' : Ren} {w' : World} {v' : Value} (hv : ∀ e, v = some e → VRel ρ' e v') (hrel : Rel P ρ' (D (i + 1)).h w')
    (hx : Extd (fun n => n = base + i ∨ (D i).h.next ≤ n) ρ (D i).h w ρ' (D (i + 1)).h w') :
    Inv P ops base D C f0 h0 ρ0 hs w0 ds0 ρ' (m + 1) (listed.setIfInBounds i true) (a.put o.dst v') w' := by
  have hi := (Array.getElem?_eq_some_iff.1 ho).1
  have hil : i < listed.size := by rw [I.size]; exact hi
  have hset : ∀ j, In (listed.setIfInBounds i true) j ↔ j = i ∨ In listed j := fun j => In.set hil
  have he : (C i).isEff = true := by rw [hc]; rfl
  obtain ⟨hE, hl1⟩ := T.eff_at hi he
  rw [hlev] at hE hl1
  have hst := T.st i o ho
  rw [hc] at hst
  have hH : Txt.H ops D h0 (m + 1) = (D (i + 1)).h := by
    obtain ⟨rest, hr⟩ := T.head S (i := i + 1) (by omega)
    rw [hst.2.2.2.1, hl1] at hr
    injection hr with h1 h2
    exact h1.symm
  obtain ⟨hj1, hj2⟩ := I.joined T S (i := i) (by omega) hlev
  obtain ⟨hn1, hn2⟩ := T.heap S i (by omega)
  rw [hlev] at hn1 hn2
  have hnx := I.next
  -- what was made ahead of its turn
  have hal : ∀ j v2 ob2, In listed j → C j = .alloc v2 ob2 → m + 1 ≤ Txt.lev D j → ∃ L2, ρ (base + j) = some L2 ∧ ρ' (base + j) = some L2 ∧ w0.heap.size ≤ L2.b ∧ ORel P ρ' L2 ob2 w'.heap[L2.b]? ∧ ∀ n o L', (D (i + 1)).h.get n = some o → ρ' n = some L' → L'.b ≠ L2.b := by
    intro j v2 ob2 hj hcj hm
    obtain ⟨L2, q1, q2, q3, q4⟩ := I.al j v2 ob2 hj hcj (by omega)
    have hd := (I.rel.dom _ _ q1).2
    have hnl : ∀ n x L', (D i).h.get n = some x → ρ n = some L' → L'.b ≠ L2.b := by
      intro n x L' h1 h2
      rcases hn2 n x h1 with h3 | ⟨j2, v3, a1, a2, a3, rfl⟩
      · exact q4 n x L' h3 h2
      · have hin : In listed j2 := by
          by_cases hin : In listed j2
          · exact hin
          · rw [I.fresh j2 (by omega) hin] at h2; cases h2
        exact I.al2 j2 j v3 x v2 ob2 hin hj a2 hcj (by omega) (by omega) (fun e => by subst e; omega) L' L2 h2 q1
    refine ⟨L2, q1, hx.le _ _ q1, q2, ?_, fun n x L' h1 h2 h3 => ?_⟩
    · rw [hx.kept L2.b hd hnl]; exact q3.mono hx.le
    · obtain ⟨n2, x2, M, h4, h5, h6⟩ := hx.sub n x L' h1 h2 (by omega)
      exact hnl n2 x2 M h4 h5 (by omega)
  refine ⟨by simp [I.size], ?_, ?_, ?_, by rw [hH]; exact hrel, ?_, ?_, ?_, I.put N T S ho hn hx.le (fun e h => hv e (by rw [hc] at h; exact h)), ?_, ?_, by rw [put_defers]; exact I.df, ?_⟩
  · intro j o' hj ho' e he hb
    rw [hset] at hj ⊢
    rcases hj with rfl | hj
    · rw [ho] at ho'; cases ho'; exact .inr (hrd e he hb)
    · exact .inr (I.closed j o' hj ho' e he hb)
  · have := (List.getElem?_eq_some_iff.1 hE).1
    omega
  · intro k e hke
    rw [hset]
    by_cases hei : e = i
    · subst hei
      have h1 := (T.E_of S hke).2.2
      have h2 := (T.E_of S hE).2.2
      constructor
      · intro _; omega
      · intro _; exact .inl rfl
    · have hkm : k ≠ m := fun h => by subst h; rw [hE] at hke; cases hke; exact hei rfl
      rw [I.eff k e hke]
      constructor
      · rintro (h | h)
        · exact absurd h hei
        · omega
      · intro h; exact .inr (by omega)
  · rw [hH]
    intro j v2 ob2 hj hcj hm
    rw [hset] at hj
    have hji : j ≠ i := fun e => by subst e; rw [hc] at hcj; cases hcj
    obtain ⟨L2, q0, q1, q2, q3, q4⟩ := hal j v2 ob2 (hj.resolve_left hji) hcj hm
    exact ⟨L2, q1, q2, q3, q4⟩
  · intro j j' v1 ob1 v2 ob2 hj hj' hc1 hc2 hm1 hm2 hne2 L1 L2 h1 h2
    rw [hset] at hj hj'
    have hji : j ≠ i := fun e => by subst e; rw [hc] at hc1; cases hc1
    have hji' : j' ≠ i := fun e => by subst e; rw [hc] at hc2; cases hc2
    obtain ⟨L1', p0, p1, _⟩ := hal j v1 ob1 (hj.resolve_left hji) hc1 hm1
    obtain ⟨L2', q0, q1, _⟩ := hal j' v2 ob2 (hj'.resolve_left hji') hc2 hm2
    rw [p1] at h1; cases h1
    rw [q1] at h2; cases h2
    exact I.al2 j j' v1 ob1 v2 ob2 (hj.resolve_left hji) (hj'.resolve_left hji') hc1 hc2 (by omega) (by omega) hne2 _ _ p0 q0
  · intro j hj hnj
    have hji : j ≠ i := fun e => hnj ((hset j).2 (.inl e))
    have h1 := I.fresh j hj fun h => hnj ((hset j).2 (.inr h))
    cases hq : ρ' (base + j) with
    | none => rfl
    | some L' =>
      rcases hx.names _ L' hq with h2 | h2 | h2
      · rw [h1] at h2; cases h2
      · omega
      · rw [hn1] at h2; omega
  · rw [hH]
    refine hj2.trans hx (fun _ h => h) (fun n h => ?_)
    rcases h with rfl | h
    · exact Nat.le_add_right _ _
    · rw [hn1] at h; show base ≤ n; omega
  · rw [hH]
    intro n x h
    rcases hx.gets n x h with ⟨x', h1⟩ | rfl | h1
    · rcases hn2 n x' h1 with h2 | ⟨j, v2, a1, a2, a3, rfl⟩
      · rcases I.gets n x' h2 with h3 | h3 | ⟨j, h3, h4, h5⟩
        · exact .inl h3
        · exact .inr (.inl h3)
        · refine .inr (.inr ⟨j, h3, h4, h5.imp id fun ⟨v3, ob3, h6, h7⟩ => ⟨v3, ob3, h6, by omega⟩⟩)
      · exact .inr (.inr ⟨j, rfl, by omega, .inr ⟨v2, x', a2, by omega⟩⟩)
    · exact .inr (.inr ⟨i, rfl, hi, .inl he⟩)
    · rw [hn1] at h1; exact .inr (.inl (by omega))
  · rw [hH]
    have := hx.next
    rw [hn1] at this
    omega

end Go.Eng

namespace Go.Eng
open Go
variable [Syms]

variable {P : Program} {tb : Tab} {ex : Ex} {ops : Array Oper} {base : Nat}
variable {d0 : Dr} {D : Nat → Dr} {C : Nat → Cl} {f0 : Fr} {h0 : EH} {ρ0 : Ren} {hs : EH} {w0 : World} {ds0 : List Deferred} {ρ : Ren} {m : Nat} {listed : Array Bool} {a : Act} {w : World}

omit [Syms] in
theorem T.get_leafD {α : Type} (n : Nat) : (T.leaf : T α).get n = none := rfl

theorem draw_step (ht : FnOk P tb) (hcl : SoundC P tb ex) (hro : SoundR P ex) {ro : Option Nat} {n : Nat} {Q : Exit → Act → World → Prop} (hb40 : base + ops.size ≤ 549755813888) (N : NamesOk ops) (K : Checks tb ops D C h0) (T : Txt tb ex ops (Region.before ops).toList base d0 D C) (S : Start d0 f0 h0)
    (I : Inv P ops base D C f0 h0 ρ0 hs w0 ds0 ρ m listed a w) {i : Nat} {o : Oper} (ho : ops[i]? = some o) (hn : ¬ In listed i) (hrd : ∀ e ∈ o.after, Region.binds .any e = true → In listed e.on) {Kx : Act → World → Prop}
    (hK : ∀ ρ' m' a' w', Inv P ops base D C f0 h0 ρ0 hs w0 ds0 ρ' m' (listed.setIfInBounds i true) a' w' → Kx a' w') : wpOpIn (wideAt ro) n P ops Q i Kx a w := by
  have hi := (Array.getElem?_eq_some_iff.1 ho).1
  have hst := T.st i o ho
  have hfr := I.frame N T S ho hn hrd
  have hfresh := I.fresh i hi hn
  have hnx := I.next
  let fk := (D i).f.keep fun t => decide (t ∈ opTmps ops o)
  have hkt : ∀ t ∈ opTmps ops o, (D i).f.get t = fk.get t := fun t h => by
    show _ = ((D i).f.keep _).get t
    rw [Fr.get_keep, if_pos (by simpa using h)]
  have hcong : ∀ h nm, opE tb h nm (D i).f o = opE tb h nm fk o := fun h nm => opE_congr fun t h1 => hkt t (by simp [opTmps, h1])
  have hwc : wantedE ops (D i).f o = wantedE ops fk o := wantedE_congr hkt
  unfold wpOpIn
  simp only [ho]
  cases hc : C i with
  | skip =>
    rw [hc] at hst
    have hw := hst.1
    rw [hwc] at hw
    rw [if_neg (by rw [wanted_rel hfr hw]; exact Bool.false_ne_true)]
    exact ⟨fun _ _ => trivial, hK ρ m _ w (I.quiet N T S ho hn hrd (by rw [hc]; rfl) (fun v ob => by rw [hc]; intro e; cases e) (fun e he => by rw [hc] at he; cases he; exact .tuple [] #[] .nil))⟩
  | quiet rd v =>
    rw [hc] at hst
    obtain ⟨hw, hset, hh, _, _, _, hop, hkind⟩ := hst
    rw [hwc] at hw
    rw [if_pos (wanted_rel hfr hw)]
    -- a heap that the world meets, at which the operation comes to v
    have key : ∃ G : EH, Rel P ρ G w ∧ base + i < G.next ∧ opE tb G (base + i) fk o = some (.val v G) := by
      cases rd with
      | false =>
        simp only [Bool.false_eq_true, if_false] at hkind
        obtain ⟨v2, e, hall⟩ := kind_pure hkind.1 hop
        cases e
        exact ⟨_, I.rel, by omega, by rw [← hcong]; exact hall _ _⟩
      | true =>
        simp only [if_true] at hkind
        by_cases hl : Txt.lev D i = m
        · obtain ⟨j1, _⟩ := I.joined T S (i := i) (by omega) hl
          refine ⟨_, j1, ?_, by rw [← hcong]; exact hop⟩
          rw [(T.heap S i (by omega)).1, hl]; omega
        · obtain ⟨w2, h2, q1, rfl⟩ := K.rd i o v ho hc m I.mle (fun e => hl e.symm) (fun k' e hk he hbf => by
            have := (I.eff k' e he).1 (bef_ready N.edge I.closed ho hrd hbf)
            omega) (fun k' e hk he hbf => by
            have := (I.eff k' e he).2 hk
            exact hn (bef_closed N.edge I.closed e i this hbf))
          obtain ⟨v3, e, hall⟩ := kind_reader hkind.1 q1
          cases e
          exact ⟨_, I.rel, by omega, by rw [← hcong]; exact hall _⟩
    obtain ⟨G, g1, g2, g3⟩ := key
    have hkq : kindOf tb o.op = .pure ∨ kindOf tb o.op = .reader := by
      cases rd with
      | false => simp only [Bool.false_eq_true, if_false] at hkind; exact .inl hkind.1
      | true => simp only [if_true] at hkind; exact .inr hkind.1
    obtain ⟨v', q1, q2⟩ := quiet_sound ht.toTabOk hfr g1 hfresh g2 hkq g3
    refine ⟨fun _ _ => trivial, ?_⟩
    rw [Oper.semAt_eq _ _ _ (opE_noDefer g3), q1]
    exact hK ρ m _ w (I.quiet N T S ho hn hrd (by rw [hc]; rfl) (fun v ob => by rw [hc]; intro e; cases e) (fun e he => by rw [hc] at he; cases he; exact q2))
  | alloc v ob =>
    rw [hc] at hst
    obtain ⟨hw, hset, hh, _, _, _, _, hall, hshape⟩ := hst
    rw [hwc] at hw
    rw [if_pos (wanted_rel hfr hw)]
    let G : EH := ⟨.leaf, (Txt.H ops D h0 m).next⟩
    have hGn : ∀ n o, G.get n ≠ some o := fun n o h => by
      have h' : (none : Option EO) = some o := h
      cases h'
    have hG : Rel P ρ G w := ⟨fun n o L h => absurd h (hGn n o), fun n n' o o' L L' h => absurd h (hGn n o), fun n L h => I.rel.dom n L h, fun n o h => absurd h (hGn n o), I.rel.pin⟩
    have hop : opE tb G (base + i) fk o = some (.val v (G.set (base + i) ob)) := by rw [← hcong]; exact hall G
    have hgot : (G.set (base + i) ob).get (base + i) = some ob := by
      show (Eng.T.set deep _ _ _).get _ = _
      rw [Eng.T.get_set_eq _ _ _ _ _ (by show base + i + 1 < 2 ^ 40; omega), if_pos rfl]
    have hlt : base + i < G.next := by show base + i < (Txt.H ops D h0 m).next; omega
    have hgd := opE_sound ht.toTabOk hfr hG hfresh hlt hop
    rcases hgd with ⟨e, _⟩ | ⟨_, ρ', v', w', q1, q2, q3, q4⟩
    · rw [e] at hgot
      exact absurd hgot (hGn _ _)
    · refine ⟨fun _ _ => trivial, ?_⟩
      rw [Oper.semAt_eq _ _ _ (opE_noDefer hop), q1]
      have hL : ∃ L, ρ' (base + i) = some L := by
        rcases hshape with rfl | rfl | ⟨len, cap, es, rfl⟩
        · cases q2 with | ptr _ _ L h => exact ⟨L, h⟩
        · cases q2 with | map _ L h => exact ⟨L, h⟩
        · cases q2 with | slice _ _ _ _ _ L o c h _ _ _ => exact ⟨L, h⟩
      obtain ⟨L, hL⟩ := hL
      have hbL : w.heap.size ≤ L.b := by
        by_cases hlt2 : L.b < w.heap.size
        · obtain ⟨n2, o2, M, h4, _⟩ := q4.sub _ _ _ hgot hL hlt2
          exact absurd h4 (hGn _ _)
        · omega
      exact hK ρ' m _ w' (I.alloc N K T S ho hn hrd hc q2 hL (q3.live _ _ _ hgot hL) hbL (q3.dom _ _ hL).2 q4.le q4.names (fun b hb => q4.kept b hb fun n o L h => absurd h (hGn n o)) q4.size q4.os q4.tape q4.output)
  | eff r v =>
    rw [hc] at hst
    obtain ⟨hw, hset, _, _, _, _, hop, hor, hch⟩ := hst
    rw [hwc] at hw
    rw [if_pos (wanted_rel hfr hw)]
    have he : (C i).isEff = true := by rw [hc]; rfl
    obtain ⟨hE, _⟩ := T.eff_at hi he
    have hge : m ≤ Txt.lev D i := by
      by_cases h : m ≤ Txt.lev D i
      · exact h
      · exact absurd ((I.eff _ _ hE).2 (by omega)) hn
    have hlev : Txt.lev D i = m := by
      by_cases h : Txt.lev D i = m
      · exact h
      · exfalso
        obtain ⟨k, hk⟩ : ∃ k, Txt.lev D i = k + 1 := ⟨Txt.lev D i - 1, by omega⟩
        rw [hk] at hE
        have hlt : k < (Txt.E ops D).length := by have := (List.getElem?_eq_some_iff.1 hE).1; omega
        have hE' : (Txt.E ops D)[k]? = some (Txt.E ops D)[k] := List.getElem?_eq_getElem hlt
        have hbf := T.chain S hE' hE
        have := (I.eff _ _ hE').1 (bef_ready N.edge I.closed ho hrd hbf)
        omega
    obtain ⟨j1, j2⟩ := I.joined T S (i := i) (by omega) hlev
    have hlt : base + i < (D i).h.next := by rw [(T.heap S i (by omega)).1, hlev]; omega
    refine op_wp ht hcl hro hfr j1 hfresh hlt (by rw [← hcong]; exact hop) hor ?_
    intro ρ' v' w' hv hr' hx'
    exact hK ρ' (m + 1) _ w' (I.effect N T S ho hn hrd hc hlev (fun e h => by subst h; exact hv) hr' hx')

omit [Syms] in
theorem countP_lt {p q : Nat → Bool} : ∀ {l : List Nat} {x : Nat}, (∀ y, q y = true → p y = true) → x ∈ l → p x = true → q x = false → l.countP q < l.countP p
  | y :: l, x, h, hx, hp, hq => by
    have hle : l.countP q ≤ l.countP p := List.countP_mono_left fun y _ => h y
    simp only [List.countP_cons]
    cases hx with
    | head => simp only [hp, hq, if_true, Bool.false_eq_true, if_false]; omega
    | tail _ hx =>
      have := countP_lt h hx hp hq
      cases h1 : q y with
      | true => simp only [h y h1, if_true]; omega
      | false =>
        simp only [Bool.false_eq_true, if_false]
        cases p y <;> simp only [Bool.false_eq_true, if_false, if_true] <;> omega

theorem draw_all (ht : FnOk P tb) (hcl : SoundC P tb ex) (hro : SoundR P ex) {ro : Option Nat} {n : Nat} {Q : Exit → Act → World → Prop} (hb40 : base + ops.size ≤ 549755813888) (N : NamesOk ops) (K : Checks tb ops D C h0) (T : Txt tb ex ops (Region.before ops).toList base d0 D C) (S : Start d0 f0 h0)
    (hQ : ∀ ρ m listed a w, Inv P ops base D C f0 h0 ρ0 hs w0 ds0 ρ m listed a w → (∀ i, i < ops.size → In listed i) → Q .normal a w) :
    ∀ (fuel : Nat) (ρ : Ren) (m : Nat) (listed : Array Bool) (a : Act) (w : World), Inv P ops base D C f0 h0 ρ0 hs w0 ds0 ρ m listed a w → (List.range ops.size).countP (fun i => !listed.getD i false) ≤ fuel → wpAnyIn (wideAt ro) n P .any ops Q fuel listed a w := by
  have mem_ready : ∀ (listed : Array Bool), listed.size = ops.size → ∀ i, i ∈ Region.ready .any ops listed → ∃ o, ops[i]? = some o ∧ ¬ In listed i ∧ ∀ e ∈ o.after, Region.binds .any e = true → In listed e.on := by
    intro listed hsz i hi
    unfold Region.ready at hi
    rw [List.mem_filter] at hi
    obtain ⟨h1, h2⟩ := hi
    have hlt := List.mem_range.1 h1
    obtain ⟨o, ho⟩ := op_at hlt
    rw [ho] at h2
    simp only [Option.map_some, Option.getD_some, Bool.and_eq_true] at h2
    refine ⟨o, ho, ?_, fun e he hb => ?_⟩
    · have h3 := h2.1
      unfold In
      have hl : i < listed.size := by omega
      simp only [Array.getD_eq_getD_getElem?, Array.getElem?_eq_getElem hl, Option.getD_some] at h3 ⊢
      simpa using h3
    · obtain ⟨k, hk, rfl⟩ := Array.mem_iff_getElem.1 he
      have := (Array.all_eq_true.1 h2.2) k hk
      rw [hb] at this
      simp only [Bool.not_true, Bool.false_or] at this
      exact this
  have empty_all : ∀ (listed : Array Bool), listed.size = ops.size → Region.ready .any ops listed = [] → ∀ i, i < ops.size → In listed i := by
    intro listed hsz hr i
    induction i using Nat.strongRecOn with
    | _ i ih =>
      intro hi
      by_cases hin : In listed i
      · exact hin
      · exfalso
        obtain ⟨o, ho⟩ := op_at hi
        have : i ∈ Region.ready .any ops listed := by
          unfold Region.ready
          rw [List.mem_filter]
          refine ⟨List.mem_range.2 hi, ?_⟩
          rw [ho]
          simp only [Option.map_some, Option.getD_some, Bool.and_eq_true]
          refine ⟨?_, ?_⟩
          · unfold In at hin
            have hl : i < listed.size := by omega
            simp only [Array.getD_eq_getD_getElem?, Array.getElem?_eq_getElem hl, Option.getD_some] at hin ⊢
            simpa using hin
          · rw [Array.all_eq_true]
            intro k hk
            cases hb : Region.binds .any o.after[k] with
            | false => rfl
            | true =>
              have hlt := N.edge i o ho _ (Array.getElem_mem hk) hb
              have := ih _ hlt (by omega)
              simp only [Bool.not_true, Bool.false_or]
              exact this
        rw [hr] at this
        cases this
  intro fuel
  induction fuel with
  | zero =>
    intro ρ m listed a w I hcnt
    have hall : ∀ i, i < ops.size → In listed i := by
      intro i hi
      by_cases hin : In listed i
      · exact hin
      · exfalso
        have : 0 < (List.range ops.size).countP (fun i => !listed.getD i false) := List.countP_pos_iff.2 ⟨i, List.mem_range.2 hi, by unfold In at hin; simpa using hin⟩
        omega
    refine ⟨?_, hQ ρ m listed a w I hall⟩
    cases hr : Region.ready .any ops listed with
    | nil => rfl
    | cons i l =>
      obtain ⟨o, ho, hn, _⟩ := mem_ready listed I.size i (by rw [hr]; simp)
      exact absurd (hall i (Array.getElem?_eq_some_iff.1 ho).1) hn
  | succ fuel ih =>
    intro ρ m listed a w I hcnt
    refine ⟨fun hr => hQ ρ m listed a w I (empty_all listed I.size hr), fun i hi => ?_⟩
    obtain ⟨o, ho, hn, hrd⟩ := mem_ready listed I.size i hi
    have hlt := (Array.getElem?_eq_some_iff.1 ho).1
    refine draw_step ht hcl hro hb40 N K T S I ho hn hrd fun ρ' m' a' w' I' => ih ρ' m' _ a' w' I' ?_
    have hil : i < listed.size := by rw [I.size]; exact hlt
    have : (List.range ops.size).countP (fun j => !(listed.setIfInBounds i true).getD j false) < (List.range ops.size).countP (fun j => !listed.getD j false) := by
      refine countP_lt (x := i) (fun y hy => ?_) (List.mem_range.2 hlt) (by unfold In at hn; simpa using hn) ?_
      · have h1 : ¬ In (listed.setIfInBounds i true) y := by unfold In; simpa using hy
        rw [In.set hil] at h1
        have h2 : ¬ In listed y := fun h => h1 (.inr h)
        unfold In at h2
        simpa using h2
      · have h1 : In (listed.setIfInBounds i true) i := (In.set hil).2 (.inl rfl)
        unfold In at h1
        rw [h1]; rfl
    omega

/-- Regions that draw their order. -/
theorem draw_sound (ht : FnOk P tb) (hcl : SoundC P tb ex) (hro : SoundR P ex) : SoundD P tb ex := by
  intro id ops f h x hx hxf ro n ρ a w hf hr
  unfold drawE at hx
  simp only at hx
  split at hx
  · rename_i hok
    simp only [Bool.and_eq_true] at hok
    obtain ⟨hn0, hb⟩ := hok
    have hb40 : h.next + ops.size ≤ 549755813888 := Nat.le_of_ble_eq_true hb
    split at hx
    · rename_i d hd
      split at hx
      · rename_i hck
        simp only [Bool.and_eq_true] at hck
        obtain ⟨hck1, hck2⟩ := hck
        obtain ⟨D, C, T, hDK⟩ := drawAll_txt hd
        have S : Start ⟨f, ⟨h.objs, h.next + ops.size⟩, [], [⟨h.objs, h.next + ops.size⟩], [], []⟩ f ⟨h.objs, h.next + ops.size⟩ := ⟨rfl, rfl, rfl, rfl⟩
        have N := names_ok hn0
        have hE : Txt.E ops D = d.effs.reverse := by unfold Txt.E; rw [hDK]
        have hgs : ∀ k g, d.gs.reverse[k]? = some g → Txt.H ops D ⟨h.objs, h.next + ops.size⟩ k = g := by
          intro k g hg
          unfold Txt.H
          rw [hDK, hg]; rfl
        have K : Checks tb ops D C ⟨h.objs, h.next + ops.size⟩ := by
          refine ⟨fun i v ob hi hc k e hk he => ?_, fun i o v ho hc k hk hne h1 h2 => ?_⟩
          · have hm := T.als hi hc
            rw [hDK] at hm
            have := List.all_eq_true.1 hck1 _ hm
            simp only at this
            rw [List.all_eq_true] at this
            refine this e ?_
            rw [hE] at he
            refine List.mem_of_getElem? (i := k - Txt.lev D i) ?_
            rw [List.getElem?_drop]
            rw [← he]; congr 1; omega
          · have hm := T.rds ho hc
            rw [hDK] at hm
            have := List.all_eq_true.1 hck2 _ hm
            simp only at this
            rw [List.all_eq_true] at this
            have hk2 := this k (List.mem_range.2 (by rw [hE] at hk; omega))
            unfold steadyAt at hk2
            simp only [Bool.or_eq_true] at hk2
            rcases hk2 with ((hk2 | hk2) | hk2) | hk2
            · exfalso
              unfold waitsFor at hk2
              obtain ⟨e, he, hb⟩ := List.any_eq_true.1 hk2
              obtain ⟨j, hj⟩ := List.getElem?_of_mem he
              rw [List.getElem?_drop] at hj
              exact h1 (k + j) e (by omega) (by rw [hE]; exact hj) hb
            · exfalso
              unfold waitedBy at hk2
              obtain ⟨e, he, hb⟩ := List.any_eq_true.1 hk2
              obtain ⟨j, hj⟩ := List.getElem?_of_mem he
              have hjk : j < k := by
                have := (List.getElem?_eq_some_iff.1 hj).1
                simp at this; omega
              rw [List.getElem?_take_of_lt hjk] at hj
              exact h2 j e hjk (by rw [hE]; exact hj) hb
            · exact absurd (Nat.eq_of_beq_eq_true hk2) hne
            · split at hk2
              · rename_i g hg
                split at hk2
                · rename_i w2 h3 hop
                  rw [hgs k g hg]
                  exact ⟨w2, h3, hop, EV.eqb_eq _ _ hk2⟩
                · cases hk2
              · cases hk2
        subst hx
        refine wpIn_region_any ht.mixed ?_
        have hr1 := hr.same (fun _ => False) (w' := { w with drawn := w.drawn + 1 }) rfl rfl rfl rfl
        obtain ⟨r1, x1⟩ := hr1
        obtain ⟨r2, x2⟩ := r1.reserve (fun _ => False) (k := h.next + ops.size) (Nat.le_add_right _ _)
        have hlev0 : Txt.lev D 0 = 0 := by unfold Txt.lev; rw [T.zero]; rfl
        have hH0 : Txt.H ops D ⟨h.objs, h.next + ops.size⟩ 0 = ⟨h.objs, h.next + ops.size⟩ := by
          obtain ⟨rest, hrest⟩ := T.head S (i := 0) (Nat.zero_le _)
          rw [hlev0, T.zero] at hrest
          injection hrest with q1 q2
          exact q1.symm
        have hnin : ∀ j, ¬ In (Array.replicate ops.size false) j := by
          intro j
          unfold In
          simp only [Array.getD_eq_getD_getElem?, Array.getElem?_replicate]
          split <;> simp
        have I0 : Inv P ops h.next D C f ⟨h.objs, h.next + ops.size⟩ ρ h w a.defers ρ 0 (Array.replicate ops.size false) a { w with drawn := w.drawn + 1 } := by
          refine ⟨by simp, fun i o hi => absurd hi (hnin i), Nat.zero_le _, fun k i _ => ⟨fun hi => absurd hi (hnin i), fun hk => by omega⟩, by rw [hH0]; exact r2, fun i v ob hi => absurd hi (hnin i), fun i j v ob v' ob' hi => absurd hi (hnin i), fun i hi _ => ?_, ⟨hf.1, fun t e hte => ?_⟩, by rw [hH0]; exact (x1.trans x2 (fun _ h => h) (fun _ h => h)).weaken (fun _ h => h.elim), fun nn oo hg => ?_, rfl, by rw [hH0]; exact Nat.le_refl _⟩
          · cases hq : ρ (h.next + i) with
            | none => rfl
            | some L => have := (hr.dom _ _ hq).1; omega
          · rcases hte with ⟨j, hj, _⟩ | ⟨_, hte⟩
            · exact absurd hj (hnin j)
            · exact hf.2 t e hte
          · rw [hH0] at hg
            exact .inl (hr.low nn oo hg)
        refine draw_all ht hcl hro hb40 N K T S ?_ ops.size ρ 0 _ a _ I0 ?_
        · intro ρ' m' listed' a' w' I' hall
          have hm : m' = (Txt.E ops D).length := by
            have h1 := I'.mle
            by_cases h2 : m' < (Txt.E ops D).length
            · have he : (Txt.E ops D)[m']? = some (Txt.E ops D)[m'] := List.getElem?_eq_getElem h2
              have := (I'.eff _ _ he).1 (hall _ (T.E_of S he).1)
              omega
            · omega
          have hlv : Txt.lev D ops.size = m' := by rw [hm]; unfold Txt.lev Txt.E; simp
          obtain ⟨j1, j2⟩ := I'.joined T S (Nat.le_refl _) hlv
          rw [hDK] at j1 j2
          obtain ⟨q1, q2⟩ := T.frames S ops.size (Nat.le_refl _)
          rw [hDK] at q1 q2
          refine ⟨ρ', d.f, d.h, ⟨rfl, rfl⟩, ⟨I'.tm.1.trans q1.symm, fun t e he => ?_⟩, j1, j2, by rw [I'.df]; exact .refl _ _ _ _ _⟩
          refine I'.tm.2 t e ?_
          rcases q2 t e he with ⟨j, h1, h2, h3, h4⟩ | ⟨h1, h2⟩
          · refine .inl ⟨j, hall j h1, h2, fun j' h5 h6 => ?_, h3⟩
            by_cases hle : j' ≤ j
            · exact hle
            · have h6' := h6
              obtain ⟨o', ho', _⟩ := h6'
              exact absurd h6 (h4 j' (by omega) (Array.getElem?_eq_some_iff.1 ho').1)
          · refine .inr ⟨fun j _ hw => ?_, h2⟩
            have hw' := hw
            obtain ⟨o', ho', _⟩ := hw'
            exact h1 j (Array.getElem?_eq_some_iff.1 ho').1 hw
        · refine Nat.le_trans List.countP_le_length ?_
          simp
      · exact absurd hx.symm hxf
    · exact absurd hx.symm hxf
  · exact absurd hx.symm hxf

/-- The engine, whole: what it says of code is so. -/
theorem engine_sound (ht : FnOk P tb) (N : Nat) : SoundX P (exec tb N) := exec_sound ht (fun _ hc hr => draw_sound ht hc hr) N

/-- What the engine says of a call is so. -/
theorem engine_call (ht : FnOk P tb) (N : Nat) : SoundC P tb (exec tb N) := call_sound ht (engine_sound ht N)

end Go.Eng

/- A part of the proof of CarveSides: a verified interpreter of the model's own code, its soundness, and contracts of the library's functions. Conditions: none. -/
import Derived.Test.YtficpbnmmchpeaaGreatDoorEngH
import Derived.Test.YtficpbnmmchpeaaGreatDoorEngJ
namespace Go.Eng
open Go
variable [Syms]

variable {P : Program} {tb : Tab} {ρ : Ren} {h : EH} {w : World}

/-! A closed call, run from nothing: it does the same in every world, and turns nothing that was. -/

omit [Syms] in
theorem CallOk.mono {g : FuncId} {args' : Array Value} {K K' : Value → World → Prop} (hc : CallOk P g args' w K) (hk : ∀ v w', K v w' → K' v w') : CallOk P g args' w K' := by
  rcases hc with ⟨h1, h2⟩ | ⟨v, w', h1, h2⟩
  · exact .inl ⟨h1, fun n => (h2 n).mono fun e w' ⟨v, he, hv⟩ => ⟨v, he, hk v w' hv⟩⟩
  · exact .inr ⟨v, w', h1, hk v w' h2⟩

def EH.none (k : Nat) : EH := ⟨.leaf, k⟩
def Ren.none : Ren := fun _ => Option.none

theorem Rel.nothing (k : Nat) (w : World) (hp : ∀ b x, Syms.pin b = some x → w.heap[b]? = some (.cells x.1 x.2.1 x.2.2)) : Rel P Ren.none (EH.none k) w where
  live n o L h := by cases h
  inj n n' o o' L L' h := by cases h
  dom n L h := by cases h
  low n o h := by cases h
  pin := ⟨hp, fun n L h => by cases h⟩

omit [Syms] in
theorem Extd.all_kept {k : Nat} {ρ' : Ren} {h' : EH} {w' : World} (hx : Extd (k ≤ ·) Ren.none (EH.none k) w ρ' h' w') : ∀ b, b < w.heap.size → w'.heap[b]? = w.heap[b]? :=
  fun b hb => hx.kept b hb fun n o L h => by cases h

theorem Rel.of_kept {w' : World} (hr : Rel P ρ h w) (hs : w.heap.size ≤ w'.heap.size) (hk : ∀ b, b < w.heap.size → w'.heap[b]? = w.heap[b]?) : Rel P ρ h w' where
  live n o L h1 h2 := by rw [hk L.b (hr.dom n L h2).2]; exact hr.live n o L h1 h2
  inj := hr.inj
  dom n L h1 := ⟨(hr.dom n L h1).1, Nat.lt_of_lt_of_le (hr.dom n L h1).2 hs⟩
  low := hr.low
  pin := hr.pin.kept hk

theorem closed_post {k : Nat} {v : EV} {h' : EH} {v' : Value} {w' : World} (hr : Rel P ρ h w) (hv : ∀ ρ1 v', VRel ρ1 v v' → VRel ρ v v') (hc : CPost P Ren.none (EH.none k) w v h' v' w') : CPost P ρ h w v h v' w' := by
  obtain ⟨ρ', h1, h2, h3⟩ := hc
  have hk := h3.all_kept
  refine ⟨ρ, hv _ _ h1, hr.of_kept h3.size hk, ?_⟩
  exact { le := ρ.le_refl, next := Nat.le_refl _, names := fun _ _ e => .inl e, os := h3.os, tape := h3.tape, output := h3.output, size := h3.size,
          kept := fun b hb _ => hk b hb, gets := fun _ o e => .inl ⟨o, e⟩,
          loops := fun b r e => ⟨r, by rw [hk b (Array.getElem?_eq_some_iff.1 e).1]; exact e⟩,
          sub := fun n o L h1 h2 _ => ⟨n, o, L, h1, h2, rfl⟩ }

/-- A closed call without arguments that comes to a Bool. -/
theorem closed_bool (ht : FnOk P tb) {N g k : Nat} {b : Bool} {h' : EH} (hrun : callWith tb (exec tb N) g [] (EH.none k) = some (.bool b, h')) (hr : Rel P ρ h w) {args' : Array Value} (ha : VRels ρ [] args'.toList) :
    CallOk P g args' w (CPost P ρ h w (.bool b) h) := by
  have h0 := engine_call ht N g [] (EH.none k) (.bool b) h' hrun Ren.none w args' (Rel.nothing k w hr.pin.at_) (by
    generalize args'.toList = l at ha
    cases ha
    exact .nil)
  exact h0.mono fun v' w' hc => closed_post hr (fun ρ1 v' hv => by cases hv; exact .bool _) hc

end Go.Eng

namespace Go.Eng
open Go
variable [Syms]

variable {P : Program} {tb : Tab} {ρ ρ' : Ren} {h h' hL : EH} {w w' : World} {f fL : Fr}

/-! States of which less is kept. -/

def EH.sub (a b : EH) : Prop := (∀ n o, a.get n = some o → b.get n = some o) ∧ b.next ≤ a.next ∧ ∀ n o, a.get n = some o → n < a.next
def Fr.sub (a b : Fr) : Prop := a.n = b.n ∧ ∀ t e, a.get t = some e → b.get t = some e

theorem Rel.thin (hr : Rel P ρ h w) (hs : EH.sub hL h) : Rel P ρ hL w where
  live n o L h1 h2 := hr.live n o L (hs.1 n o h1) h2
  inj n n' o o' L L' h1 h2 := hr.inj n n' o o' L L' (hs.1 _ _ h1) (hs.1 _ _ h2)
  dom n L h1 := ⟨Nat.lt_of_lt_of_le (hr.dom n L h1).1 hs.2.1, (hr.dom n L h1).2⟩
  low n o h1 := hs.2.2 n o h1
  pin := hr.pin

theorem FRel.thin {tm : Array Value} (hf : FRel ρ f tm) (hs : Fr.sub fL f) : FRel ρ fL tm := ⟨hf.1.trans hs.1.symm, fun t e h => hf.2 t e (hs.2 t e h)⟩

omit [Syms] in
theorem Extd.thin {S : Nat → Prop} (hx : Extd S ρ h w ρ' h' w') (hs : EH.sub hL h') : Extd S ρ h w ρ' hL w' where
  le := hx.le
  next := Nat.le_trans hx.next hs.2.1
  names := hx.names
  os := hx.os
  tape := hx.tape
  output := hx.output
  size := hx.size
  kept := hx.kept
  gets n o e := hx.gets n o (hs.1 n o e)
  loops := hx.loops
  sub n o L e := hx.sub n o L (hs.1 n o e)

omit [Syms] in
/-- A walk may begin with less. -/
theorem Extd.less {S : Nat → Prop} (hx : Extd S ρ hL w ρ' h' w') (hs : EH.sub hL h) : Extd (fun n => S n ∧ h.next ≤ n ∨ S n) ρ h w ρ' h' w' where
  le := hx.le
  next := Nat.le_trans hs.2.1 hx.next
  names n L e := (hx.names n L e).imp id .inr
  os := hx.os
  tape := hx.tape
  output := hx.output
  size := hx.size
  kept b hb hn := hx.kept b hb fun n o L e => hn n o L (hs.1 n o e)
  gets n o e := by
    rcases hx.gets n o e with ⟨o', e'⟩ | e'
    · exact .inl ⟨o', hs.1 n o' e'⟩
    · exact .inr (.inr e')
  loops := hx.loops
  sub n o L e1 e2 e3 := by
    obtain ⟨m, o', M, h1, h2, h3⟩ := hx.sub n o L e1 e2 e3
    exact ⟨m, o', M, hs.1 m o' h1, h2, h3⟩

omit [Syms] in
theorem DRel.thin {w0 : World} {ds0 ds : List Deferred} (hd : DRel w0 ds0 ds ρ h w) (hs : EH.sub hL h) : DRel w0 ds0 ds ρ hL w := by
  obtain ⟨bs, e, hn, hb⟩ := hd
  exact ⟨bs, e, hn, fun b hm => let ⟨h1, h2, h3, h4⟩ := hb b hm; ⟨h1, h2, h3, fun n o L e => h4 n o L (hs.1 n o e)⟩⟩

/-- What one run of code says of the world. -/
def Sound1 (P : Program) (_rd : Bool) (c : Code) (f : Fr) (h : EH) (x : XR) : Prop :=
  ∀ (ro : Option Nat) (n : Nat) (ρ : Ren) (a : Act) (w : World), FRel ρ f a.tmps → Rel P ρ h w → LoopOk ro w → c.wpIn (wideAt ro) n P (XPost P ρ h w a.defers x) a w

theorem sound1_exec (ht : FnOk P tb) {N : Nat} {rd : Bool} {c : Code} {x : XR} (hx : exec tb N rd c f h = x) (hn : x ≠ .fail) : Sound1 P rd c f h x :=
  engine_sound ht N rd c f h x hx hn

theorem XPost.thin {ds : List Deferred} {e : Exit} {a : Act} (hs : EH.sub hL h') (hf : Fr.sub fL f) (hq : XPost P ρ h w ds (.normal f h') e a w') : XPost P ρ h w ds (.normal fL hL) e a w' := by
  obtain ⟨ρ', f1, h1, q1, q2, q3, q4, q5⟩ := hq
  cases e with
  | normal =>
    obtain ⟨rfl, rfl⟩ := q1
    exact ⟨ρ', fL, hL, ⟨rfl, rfl⟩, q2.thin hf, q3.thin hs, q4.thin hs, q5.thin hs⟩
  | _ => exact q1.elim
end Go.Eng

namespace Go.Eng
open Go
variable [Syms]

variable {P : Program} {tb : Tab} {ρ ρ' : Ren} {h h' : EH} {w w' : World}

theorem VRels.back_of {ρ ρ' : Ren} {es : List EV} {_vs : List Value} (ih : ∀ us, VRels ρ' es us → VRels ρ es us) : ∀ us, VRels ρ' es us → VRels ρ es us := ih

theorem VRel.back (hle : ρ.le ρ') : ∀ {e : EV} {v : Value}, VRel ρ e v → ∀ v', VRel ρ' e v' → VRel ρ e v' := by
  intro e v h
  have same : ∀ {n : Nat} {L M : Loc}, ρ n = some L → ρ' n = some M → M = L := fun {n L M} h1 h2 => by
    have := hle _ _ h1
    rw [h2] at this
    exact Option.some.inj this
  refine VRel.rec (motive_1 := fun e v _ => ∀ v', VRel ρ' e v' → VRel ρ e v') (motive_2 := fun es vs _ => ∀ us, VRels ρ' es us → VRels ρ es us)
    ?_ ?_ ?_ ?_ ?_ ?_ ?_ ?_ ?_ ?_ ?_ ?_ ?_ ?_ ?_ ?_ ?_ ?_ ?_ ?_ h
  · intro b v' q; cases q; exact .bool b
  · intro k n v' q; cases q; exact .int k n
  · intro s l h v' q; cases q with | str s2 _ h2 => exact .str s2 l h2
  · intro n off L h v' q; cases q with | ptr _ _ M hM => exact .ptr n off M ((same h hM) ▸ h)
  · intro v' q; cases q; exact .nilPtr
  · intro n off len cap es L o c h hl hc ho v' q
    cases q with | slice _ _ _ _ _ M o2 c2 hM hl2 hc2 ho2 => exact .slice n off len cap es M o2 c2 ((same h hM) ▸ h) hl2 hc2 ho2
  · intro v' q; cases q; exact .nilSlice
  · intro n L h v' q; cases q with | map _ M hM => exact .map n M ((same h hM) ▸ h)
  · intro v' q; cases q; exact .nilMap
  · intro fn a b a' b' hn _ _ h1 h2 v' q
    cases q with
    | func _ _ _ x y hn2 q1 q2 => exact .func fn a b x y hn (h1 _ q1) (h2 _ q2)
    | yield n M hM => exact absurd rfl (hn _)
  · intro n L h v' q
    cases q with
    | func _ _ _ x y hn2 q1 q2 => exact absurd rfl (hn2 _)
    | yield _ M hM => exact .yield n M ((same h hM) ▸ h)
  · intro v' q; cases q; exact .nilFunc
  · intro t v v' _ ih u q; cases q with | iface _ _ x qx => exact .iface t v x (ih _ qx)
  · intro v' q; cases q; exact .nilIface
  · intro cs cs' _ ih v' q; cases q with | agg _ x qx => exact .agg cs x (ih _ qx)
  · intro cs cs' _ ih v' q; cases q with | tuple _ x qx => exact .tuple cs x (ih _ qx)
  · intro v h v' q; cases q with | any _ h' => exact .any v' h'
  · intro n v hv h1 v' q; cases q with | sym _ _ hv' h1' => exact .sym n v' hv' h1'
  · intro us q; cases q; exact .nil
  · intro e v es vs _ _ ih ihs us q; cases q with | cons _ u _ us' q1 q2 => exact .cons e u es us' (ih _ q1) (ihs _ q2)

theorem MRel.back (hle : ρ.le ρ') : ∀ {es : List (EV × EV × Nat)} {xs ys : List MapEntry}, MRel ρ es xs → MRel ρ' es ys → MRel ρ es ys
  | [], [], [], _, _ => trivial
  | [], [], _ :: _, _, h => h.elim
  | [], _ :: _, _, h, _ => h.elim
  | _ :: _, [], _, h, _ => h.elim
  | _ :: _, _ :: _, [], _, h => h.elim
  | _ :: _, _ :: _, _ :: _, ⟨a1, a2, _, a4⟩, ⟨b1, b2, b3, b4⟩ => ⟨a1.back hle _ b1, a2.back hle _ b2, b3, a4.back hle b4⟩

theorem FRel.back (hle : ρ.le ρ') {f : Fr} {a b : Array Value} (h1 : FRel ρ f a) (h2 : FRel ρ' f b) : FRel ρ f b :=
  ⟨h2.1, fun t e he => by
    obtain ⟨v, _, hv⟩ := h1.2 t e he
    obtain ⟨u, hu, hq⟩ := h2.2 t e he
    exact ⟨u, hu, hv.back hle _ hq⟩⟩

theorem ORel.back (hle : ρ.le ρ') {L : Loc} {o : EO} {x y : Option Obj} (h1 : ORel P ρ L o x) (h2 : ORel P ρ' L o y) : ORel P ρ L o y := by
  cases o with
  | cells t e vr =>
    obtain ⟨c, fr, _, _, _, _, a5⟩ := h1
    obtain ⟨d, fs, b1, b2, b3, b4, b5⟩ := h2
    refine ⟨d, fs, b1, b2, b3, b4, fun k ev hk => ?_⟩
    obtain ⟨v, _, hv, _⟩ := a5 k ev hk
    obtain ⟨u, hu, hq, ho⟩ := b5 k ev hk
    exact ⟨u, hu, hv.back hle _ hq, ho⟩
  | map es clock =>
    obtain ⟨xs, _, a⟩ := h1
    obtain ⟨ys, e, b⟩ := h2
    exact ⟨ys, e, a.back hle b⟩
  | strIter s pos => exact h2
  | mapIter m since seen st =>
    obtain ⟨_, m1, s1, _, _, _, a4⟩ := h1
    obtain ⟨b0, m2, s2, b1, b2, b3, b4⟩ := h2
    refine ⟨b0, m2, s2, b1, b2, b3, fun n hn => ?_⟩
    obtain ⟨M, hM, _⟩ := a4 n hn
    obtain ⟨M2, hM2, e2⟩ := b4 n hn
    have : M2 = M := by
      have := hle _ _ hM
      rw [hM2] at this
      exact Option.some.inj this
    subst this
    exact ⟨M2, hM, e2⟩
  | loop st pe f ps a b =>
    obtain ⟨l, _, _, _, _, _, _, a7⟩ := h1
    obtain ⟨l2, b1, b2, b3, b4, b5, b6, b7⟩ := h2
    exact ⟨l2, b1, b2, b3, b4, b5, b6, a7.back hle b7⟩

/-- What a call turned nothing of may be said of the heap that was. -/
theorem CPost.same {v : EV} {v' : Value} (hr : Rel P ρ h w) (ho : ∀ n o, h.get n = some o → h'.get n = some o) (hv : ∀ ρ1 v', VRel ρ1 v v' → VRel ρ v v') (hc : CPost P ρ h w v h' v' w') : CPost P ρ h w v h v' w' := by
  obtain ⟨ρ', h1, h2, h3⟩ := hc
  refine ⟨ρ, hv _ _ h1, ⟨fun n o L e1 e2 => ?_, hr.inj, fun n L e => ⟨(hr.dom n L e).1, Nat.lt_of_lt_of_le (hr.dom n L e).2 h3.size⟩, hr.low, ⟨h2.pin.at_, hr.pin.free⟩⟩, ?_⟩
  · exact (hr.live n o L e1 e2).back h3.le (h2.live n o L (ho n o e1) (h3.le _ _ e2))
  · exact { le := ρ.le_refl, next := Nat.le_refl _, names := fun _ _ e => .inl e, os := h3.os, tape := h3.tape, output := h3.output, size := h3.size, kept := h3.kept,
            gets := fun _ o e => .inl ⟨o, e⟩, loops := h3.loops, sub := fun n o L e1 e2 _ => ⟨n, o, L, e1, e2, rfl⟩ }
end Go.Eng

namespace Go.Eng
open Go
variable [Syms]

/-! Are two states alike, as far as one goes? -/

def isAnyF : EV → Bool
  | .any => true
  | _ => false
/-- The same, an opaque value like another one (as terms, not as values). -/
noncomputable def EV.eqa (x y : EV) : Bool := Bool.rec (Bool.rec false (isAnyF y) (isAnyF x)) true (EV.eqb x y)
omit [Syms] in
theorem EV.eqa_eq (x y : EV) (h : EV.eqa x y = true) : x = y := by
  unfold EV.eqa at h
  cases hb : EV.eqb x y with
  | true => exact EV.eqb_eq _ _ hb
  | false =>
    rw [hb] at h
    cases hx : isAnyF x with
    | false => rw [hx] at h; cases h
    | true =>
      rw [hx] at h
      have h' : isAnyF y = true := h
      cases x <;> first | (cases hx; done) | skip
      cases y <;> first | (cases h'; done) | rfl

noncomputable def eqTr (a : T EV) : T EV → Bool :=
  T.rec (motive := fun _ => T EV → Bool) (fun b => T.rec true (fun _ _ _ _ _ => false) b)
    (fun _ v _ il ir b => T.rec false (fun l' v' r' _ _ => Bool.rec false (Bool.rec false (il l') (ir r')) (Option.rec (Option.rec true (fun _ => false) v') (fun x => Option.rec false (fun y => EV.eqa x y) v') v)) b) a
omit [Syms] in
theorem eqTr_eq : ∀ a b : T EV, eqTr a b = true → a = b := by
  intro a
  induction a with
  | leaf => intro b h; cases b with
    | leaf => rfl
    | node => cases h
  | node l v r il ir =>
    intro b h
    cases b with
    | leaf => cases h
    | node l' v' r' =>
      have h' : (Bool.rec false (Bool.rec false (eqTr l l') (eqTr r r')) (Option.rec (Option.rec true (fun _ => false) v') (fun x => Option.rec false (fun y => EV.eqa x y) v') v) : Bool) = true := h
      cases hv : (Option.rec (Option.rec true (fun _ => false) v') (fun x => Option.rec false (fun y => EV.eqa x y) v') v : Bool) with
      | false => rw [hv] at h'; cases h'
      | true =>
        rw [hv] at h'
        simp only at h'
        cases hr : eqTr r r' with
        | false => rw [hr] at h'; cases h'
        | true =>
          rw [hr] at h'
          have e1 := il _ h'
          have e2 := ir _ hr
          have e3 : v = v' := by
            cases v with
            | none => cases v' with
              | none => rfl
              | some _ => cases hv
            | some x => cases v' with
              | none => cases hv
              | some y => exact congrArg some (EV.eqa_eq x y hv)
          rw [e1, e2, e3]

noncomputable def eqM (a : List (EV × EV × Nat)) : List (EV × EV × Nat) → Bool :=
  List.rec (motive := fun _ => List (EV × EV × Nat) → Bool) (fun b => List.rec true (fun _ _ _ => false) b) (fun p _ ih b => List.rec false (fun q m _ => Bool.rec false (ih m) (EV.eqb p.1 q.1 && EV.eqa p.2.1 q.2.1 && Nat.beq p.2.2 q.2.2)) b) a
omit [Syms] in
theorem eqM_eq : ∀ a b, eqM a b = true → a = b := by
  intro a
  induction a with
  | nil => intro b h; cases b with
    | nil => rfl
    | cons => cases h
  | cons p a ih =>
    intro b h
    cases b with
    | nil => cases h
    | cons q m =>
      have h' : (Bool.rec false (eqM a m) (EV.eqb p.1 q.1 && EV.eqa p.2.1 q.2.1 && Nat.beq p.2.2 q.2.2) : Bool) = true := h
      cases hv : (EV.eqb p.1 q.1 && EV.eqa p.2.1 q.2.1 && Nat.beq p.2.2 q.2.2) with
      | false => rw [hv] at h'; cases h'
      | true =>
        rw [hv] at h'
        simp only [Bool.and_eq_true] at hv
        obtain ⟨⟨h1, h2⟩, h3⟩ := hv
        have e1 := EV.eqb_eq _ _ h1
        have e2 := EV.eqa_eq _ _ h2
        have e3 := Nat.eq_of_beq_eq_true h3
        rw [ih _ h']
        obtain ⟨p1, p2, p3⟩ := p
        obtain ⟨q1, q2, q3⟩ := q
        simp only at e1 e2 e3
        rw [e1, e2, e3]

noncomputable def eqO (a b : EO) : Bool :=
  match a, b with
  | .cells c e vr, .cells c' e' vr' => eqTr c c' && (Nat.beq e e' && (vr == vr'))
  | .map es k, .map es' k' => eqM es es' && Nat.beq k k'
  | _, _ => false
omit [Syms] in
theorem eqO_eq {a b : EO} (h : eqO a b = true) : a = b := by
  cases a <;> cases b <;> first | (cases h; done) | skip
  · simp only [eqO, Bool.and_eq_true] at h
    rw [eqTr_eq _ _ h.1, Nat.eq_of_beq_eq_true h.2.1, eq_of_beq h.2.2]
  · simp only [eqO, Bool.and_eq_true] at h
    rw [eqM_eq _ _ h.1, Nat.eq_of_beq_eq_true h.2]

noncomputable def litH (l : List (Nat × EO)) : T EO := List.rec .leaf (fun p _ ih => Prod.rec (fun n o => setP (paOf n) o ih) p) l
omit [Syms] in
theorem litH_get {n : Nat} {o : EO} : ∀ {l : List (Nat × EO)}, (litH l).get n = some o → (n, o) ∈ l := by
  intro l
  induction l with
  | nil => intro h; cases h
  | cons p l ih =>
    intro h
    obtain ⟨m, q⟩ := p
    have h' : (T.set deep (litH l) m q).get n = some o := by rw [← setP_eq]; exact h
    rcases T.get_set _ _ _ _ _ _ h' with ⟨rfl, rfl⟩ | ⟨_, h2⟩
    · exact List.mem_cons_self
    · exact List.mem_cons_of_mem _ (ih h2)

noncomputable def subL (l : List (Nat × EO)) (k : Nat) (h : EH) : Bool :=
  List.rec true (fun p _ ih => Prod.rec (fun n o => Bool.rec false (Option.rec false (fun q => Bool.rec false ih (eqO o q)) (EH.getF h n)) (Nat.ble (Nat.succ n) k)) p) l
omit [Syms] in
theorem subL_mem {k : Nat} {h : EH} {n : Nat} {o : EO} : ∀ {l : List (Nat × EO)}, subL l k h = true → (n, o) ∈ l → h.get n = some o ∧ n < k := by
  intro l
  induction l with
  | nil => intro _ h; cases h
  | cons p l ih =>
    intro hq hm
    obtain ⟨m, q⟩ := p
    have h' : (Bool.rec false (Option.rec false (fun x => Bool.rec false (subL l k h) (eqO q x)) (EH.getF h m)) (Nat.ble (Nat.succ m) k) : Bool) = true := hq
    cases hb : Nat.ble (Nat.succ m) k with
    | false => rw [hb] at h'; cases h'
    | true =>
      rw [hb, EH.getF_eq] at h'
      cases hg : h.get m with
      | none => rw [hg] at h'; cases h'
      | some x =>
        rw [hg] at h'
        simp only at h'
        cases he : eqO q x with
        | false => rw [he] at h'; cases h'
        | true =>
          rw [he] at h'
          rcases List.mem_cons.1 hm with e | hm
          · cases e
            exact ⟨hg.trans (congrArg some (eqO_eq he).symm), Nat.le_of_ble_eq_true hb⟩
          · exact ih h' hm

/-- Does a state hold what the lists say? -/
noncomputable def okNormal (l : List (Nat × EO)) (k t : Nat) (v : EV) (m : Nat) (x : XR) : Bool :=
  XR.rec false (fun f h => Bool.rec false (Option.rec false (fun e => Bool.rec false (Bool.rec false (subL l k h) (Nat.ble h.next k)) (EV.eqb v e)) (Fr.getF f t)) (Nat.beq f.n m)) (fun _ _ _ => false) (fun _ _ _ => false) (fun _ _ => false) x

omit [Syms] in
theorem okNormal_sub {l : List (Nat × EO)} {k t m : Nat} {v : EV} {x : XR} (h : okNormal l k t v m x = true) : ∃ f1 h1, x = .normal f1 h1 ∧ EH.sub ⟨litH l, k⟩ h1 ∧ Fr.sub (⟨m, T.set deep .leaf t v⟩ : Fr) f1 := by
  cases x with
  | normal f1 h1 =>
    have h' : (Bool.rec false (Option.rec false (fun e => Bool.rec false (Bool.rec false (subL l k h1) (Nat.ble h1.next k)) (EV.eqb v e)) (Fr.getF f1 t)) (Nat.beq f1.n m) : Bool) = true := h
    rw [Fr.getF_eq] at h'
    cases hn : Nat.beq f1.n m with
    | false => rw [hn] at h'; cases h'
    | true =>
      rw [hn] at h'
      cases hg : f1.get t with
      | none => rw [hg] at h'; cases h'
      | some e =>
        rw [hg] at h'
        simp only at h'
        cases hv : EV.eqb v e with
        | false => rw [hv] at h'; cases h'
        | true =>
          rw [hv] at h'
          simp only at h'
          cases hk : Nat.ble h1.next k with
          | false => rw [hk] at h'; cases h'
          | true =>
            rw [hk] at h'
            refine ⟨f1, h1, rfl, ⟨fun n o e => (subL_mem h' (litH_get e)).1, Nat.le_of_ble_eq_true hk, fun n o e => (subL_mem h' (litH_get e)).2⟩, (Nat.eq_of_beq_eq_true hn).symm, fun s e' hs => ?_⟩
            rcases T.get_set _ _ _ _ _ _ hs with ⟨rfl, rfl⟩ | ⟨_, h2⟩
            · rw [hg, EV.eqb_eq _ _ hv]
            · cases h2
  | _ => cases h

theorem sound1_seq {P : Program} {rd : Bool} {a b : Code} {f f1 fL : Fr} {h h1 hL : EH} {x : XR} (p : Sound1 P rd a f h (.normal f1 h1)) (hs : EH.sub hL h1) (hf : Fr.sub fL f1) (q : Sound1 P rd b fL hL x) : Sound1 P rd (.seq a b) f h x := by
  intro ro n ρ ac w hfr hr hl
  have h1 := p ro n ρ ac w hfr hr hl
  refine seq_wp (x1 := .normal fL hL) (wpIn_mono h1 fun e a' w' hq => XPost.thin hs hf hq) (fun f' h' e ρ' a' w' q1 q2 q3 => ?_) (fun hn => absurd rfl (hn _ _))
  cases e
  exact q ro n ρ' a' w' q1 q2 (hl.ext q3)
end Go.Eng

namespace Go.Eng
open Go
variable [Syms]

variable {P : Program} {tb : Tab} {ρ : Ren} {h h' : EH} {w : World}

/-- A call of a function whose body's run is known; the frame may know less than the arguments. -/
theorem calls_sound1 (ht : FnOk P tb) {g : FuncId} {fn : Func} {c : Code} {f0 f' : Fr} {vs : List EV} {args' : Array Value} (hfn : tb.fn g = some fn) (hbody : fn.body = some c) (hs : Sound1 P false c f0 h (.ret f' h')) (hvs : resE tb f' h' fn.results.toList = some vs)
    (hr : Rel P ρ h w) (hf : FRel ρ f0 (args' ++ Array.replicate (fn.ntmps - args'.size) undef)) (n : Nat) : CallsIn Fence.wide n P g args' w fun e w' => ∃ v', e = .returned v' ∧ CPost P ρ h w (retE vs) h' v' w' := by
  refine callsIn_of_wp_marks (ht.fn g fn hfn) hbody trivial ?_
  have hwp := hs none n ρ { tmps := args' ++ Array.replicate (fn.ntmps - args'.size) undef, defers := [] } w hf hr (fun _ e => by cases e)
  refine wpIn_mono hwp fun e a' w' hpost => ?_
  obtain ⟨ρ', f2, h3, q1, q2, q3, q4, bs, q5, q6, q7⟩ := hpost
  rw [List.append_nil] at q5
  cases e with
  | ret =>
    obtain ⟨rfl, rfl⟩ := q1
    show LeavesInM Fence.wide n P fn a'.tmps (fun e w' => ∃ v', e = .returned v' ∧ CPost P ρ h w (retE vs) h3 v' w') a'.defers .returning w'
    rw [q5]
    exact leaves_marks ht.toTabOk q2 hvs bs w' q3 q4 q6 q7 fun v' w'' r1 r2 r3 => ⟨v', rfl, ρ', r1, r2, r3⟩
  | _ => exact q1.elim

theorem call_sound1 (ht : FnOk P tb) {g : FuncId} {fn : Func} {c : Code} {f0 f' : Fr} {vs : List EV} {args' : Array Value} (hfn : tb.fn g = some fn) (hbody : fn.body = some c) (hs : Sound1 P false c f0 h (.ret f' h')) (hvs : resE tb f' h' fn.results.toList = some vs)
    (hr : Rel P ρ h w) (hf : FRel ρ f0 (args' ++ Array.replicate (fn.ntmps - args'.size) undef)) : CallOk P g args' w (CPost P ρ h w (retE vs) h') :=
  .inl ⟨ht.enter g fn c hfn hbody _ _, calls_sound1 ht hfn hbody hs hvs hr hf⟩
end Go.Eng

/- A part of the proof of SplitNone: a verified interpreter of the model's own code and its soundness. Conditions: none. -/
import Derived.Test.YtkmkkgmkmhaekaaGreatDoorEngK
import Derived.Test.YtkmkkgmkmhaekaaGreatDoorEngJ
namespace Go.Eng
open Go

/-! Are two states alike, as far as one goes? -/

noncomputable def eqTr (a : T EV) : T EV → Bool :=
  T.rec (motive := fun _ => T EV → Bool) (fun b => T.rec true (fun _ _ _ _ _ => false) b)
    (fun _ v _ il ir b => T.rec false (fun l' v' r' _ _ => Bool.rec false (Bool.rec false (il l') (ir r')) (Option.rec (Option.rec true (fun _ => false) v') (fun x => Option.rec false (fun y => EV.eqb x y) v') v)) b) a
theorem eqTr_eq : ∀ a b : T EV, eqTr a b = true → a = b := by
  intro a
  induction a with
  | leaf => intro b h; cases b with
    | leaf => rfl
    | node => cases h
  | node l v r il ir =>
    intro b h
    cases b with
    | leaf => cases h
    | node l' v' r' =>
      have h' : (Bool.rec false (Bool.rec false (eqTr l l') (eqTr r r')) (Option.rec (Option.rec true (fun _ => false) v') (fun x => Option.rec false (fun y => EV.eqb x y) v') v) : Bool) = true := h
      cases hv : (Option.rec (Option.rec true (fun _ => false) v') (fun x => Option.rec false (fun y => EV.eqb x y) v') v : Bool) with
      | false => rw [hv] at h'; cases h'
      | true =>
        rw [hv] at h'
        simp only at h'
        cases hr : eqTr r r' with
        | false => rw [hr] at h'; cases h'
        | true =>
          rw [hr] at h'
          have e1 := il _ h'
          have e2 := ir _ hr
          have e3 : v = v' := by
            cases v with
            | none => cases v' with
              | none => rfl
              | some _ => cases hv
            | some x => cases v' with
              | none => cases hv
              | some y => exact congrArg some (EV.eqb_eq x y hv)
          rw [e1, e2, e3]

noncomputable def eqM (a : List (EV × EV × Nat)) : List (EV × EV × Nat) → Bool :=
  List.rec (motive := fun _ => List (EV × EV × Nat) → Bool) (fun b => List.rec true (fun _ _ _ => false) b) (fun p _ ih b => List.rec false (fun q m _ => Bool.rec false (ih m) (EV.eqb p.1 q.1 && EV.eqb p.2.1 q.2.1 && Nat.beq p.2.2 q.2.2)) b) a
theorem eqM_eq : ∀ a b, eqM a b = true → a = b := by
  intro a
  induction a with
  | nil => intro b h; cases b with
    | nil => rfl
    | cons => cases h
  | cons p a ih =>
    intro b h
    cases b with
    | nil => cases h
    | cons q m =>
      have h' : (Bool.rec false (eqM a m) (EV.eqb p.1 q.1 && EV.eqb p.2.1 q.2.1 && Nat.beq p.2.2 q.2.2) : Bool) = true := h
      cases hv : (EV.eqb p.1 q.1 && EV.eqb p.2.1 q.2.1 && Nat.beq p.2.2 q.2.2) with
      | false => rw [hv] at h'; cases h'
      | true =>
        rw [hv] at h'
        simp only [Bool.and_eq_true] at hv
        obtain ⟨⟨h1, h2⟩, h3⟩ := hv
        have e1 := EV.eqb_eq _ _ h1
        have e2 := EV.eqb_eq _ _ h2
        have e3 := Nat.eq_of_beq_eq_true h3
        rw [ih _ h']
        obtain ⟨p1, p2, p3⟩ := p
        obtain ⟨q1, q2, q3⟩ := q
        simp only at e1 e2 e3
        rw [e1, e2, e3]

noncomputable def eqO (a b : EO) : Bool :=
  match a, b with
  | .cells c e vr, .cells c' e' vr' => eqTr c c' && (Nat.beq e e' && (vr == vr'))
  | .map es k, .map es' k' => eqM es es' && Nat.beq k k'
  | _, _ => false
theorem eqO_eq {a b : EO} (h : eqO a b = true) : a = b := by
  cases a <;> cases b <;> first | (cases h; done) | skip
  · simp only [eqO, Bool.and_eq_true] at h
    rw [eqTr_eq _ _ h.1, Nat.eq_of_beq_eq_true h.2.1, eq_of_beq h.2.2]
  · simp only [eqO, Bool.and_eq_true] at h
    rw [eqM_eq _ _ h.1, Nat.eq_of_beq_eq_true h.2]

noncomputable def litH (l : List (Nat × EO)) : T EO := List.rec .leaf (fun p _ ih => Prod.rec (fun n o => setP (paOf n) o ih) p) l
theorem litH_get {n : Nat} {o : EO} : ∀ {l : List (Nat × EO)}, (litH l).get n = some o → (n, o) ∈ l := by
  intro l
  induction l with
  | nil => intro h; cases h
  | cons p l ih =>
    intro h
    obtain ⟨m, q⟩ := p
    have h' : (T.set deep (litH l) m q).get n = some o := by rw [← setP_eq]; exact h
    rcases T.get_set _ _ _ _ _ _ h' with ⟨rfl, rfl⟩ | ⟨_, h2⟩
    · exact List.mem_cons_self
    · exact List.mem_cons_of_mem _ (ih h2)

noncomputable def subL (l : List (Nat × EO)) (k : Nat) (h : EH) : Bool :=
  List.rec true (fun p _ ih => Prod.rec (fun n o => Bool.rec false (Option.rec false (fun q => Bool.rec false ih (eqO o q)) (EH.getF h n)) (Nat.ble (Nat.succ n) k)) p) l
theorem subL_mem {k : Nat} {h : EH} {n : Nat} {o : EO} : ∀ {l : List (Nat × EO)}, subL l k h = true → (n, o) ∈ l → h.get n = some o ∧ n < k := by
  intro l
  induction l with
  | nil => intro _ h; cases h
  | cons p l ih =>
    intro hq hm
    obtain ⟨m, q⟩ := p
    have h' : (Bool.rec false (Option.rec false (fun x => Bool.rec false (subL l k h) (eqO q x)) (EH.getF h m)) (Nat.ble (Nat.succ m) k) : Bool) = true := hq
    cases hb : Nat.ble (Nat.succ m) k with
    | false => rw [hb] at h'; cases h'
    | true =>
      rw [hb, EH.getF_eq] at h'
      cases hg : h.get m with
      | none => rw [hg] at h'; cases h'
      | some x =>
        rw [hg] at h'
        simp only at h'
        cases he : eqO q x with
        | false => rw [he] at h'; cases h'
        | true =>
          rw [he] at h'
          rcases List.mem_cons.1 hm with e | hm
          · cases e
            exact ⟨hg.trans (congrArg some (eqO_eq he).symm), Nat.le_of_ble_eq_true hb⟩
          · exact ih h' hm

/-- Does a state hold what the lists say? -/
noncomputable def okNormal (l : List (Nat × EO)) (k t : Nat) (v : EV) (m : Nat) (x : XR) : Bool :=
  XR.rec false (fun f h => Bool.rec false (Option.rec false (fun e => Bool.rec false (Bool.rec false (subL l k h) (Nat.ble h.next k)) (EV.eqb v e)) (Fr.getF f t)) (Nat.beq f.n m)) (fun _ _ _ => false) (fun _ _ _ => false) (fun _ _ => false) x

theorem okNormal_sub {l : List (Nat × EO)} {k t m : Nat} {v : EV} {x : XR} (h : okNormal l k t v m x = true) : ∃ f1 h1, x = .normal f1 h1 ∧ EH.sub ⟨litH l, k⟩ h1 ∧ Fr.sub (⟨m, T.set deep .leaf t v⟩ : Fr) f1 := by
  cases x with
  | normal f1 h1 =>
    have h' : (Bool.rec false (Option.rec false (fun e => Bool.rec false (Bool.rec false (subL l k h1) (Nat.ble h1.next k)) (EV.eqb v e)) (Fr.getF f1 t)) (Nat.beq f1.n m) : Bool) = true := h
    rw [Fr.getF_eq] at h'
    cases hn : Nat.beq f1.n m with
    | false => rw [hn] at h'; cases h'
    | true =>
      rw [hn] at h'
      cases hg : f1.get t with
      | none => rw [hg] at h'; cases h'
      | some e =>
        rw [hg] at h'
        simp only at h'
        cases hv : EV.eqb v e with
        | false => rw [hv] at h'; cases h'
        | true =>
          rw [hv] at h'
          simp only at h'
          cases hk : Nat.ble h1.next k with
          | false => rw [hk] at h'; cases h'
          | true =>
            rw [hk] at h'
            refine ⟨f1, h1, rfl, ⟨fun n o e => (subL_mem h' (litH_get e)).1, Nat.le_of_ble_eq_true hk, fun n o e => (subL_mem h' (litH_get e)).2⟩, (Nat.eq_of_beq_eq_true hn).symm, fun s e' hs => ?_⟩
            rcases T.get_set _ _ _ _ _ _ hs with ⟨rfl, rfl⟩ | ⟨_, h2⟩
            · rw [hg, EV.eqb_eq _ _ hv]
            · cases h2
  | _ => cases h

theorem sound1_seq {P : Program} {rd : Bool} {a b : Code} {f f1 fL : Fr} {h h1 hL : EH} {x : XR} (p : Sound1 P rd a f h (.normal f1 h1)) (hs : EH.sub hL h1) (hf : Fr.sub fL f1) (q : Sound1 P rd b fL hL x) : Sound1 P rd (.seq a b) f h x := by
  intro ro n ρ ac w hfr hr hl
  have h1 := p ro n ρ ac w hfr hr hl
  refine seq_wp (x1 := .normal fL hL) (wpIn_mono h1 fun e a' w' hq => XPost.thin hs hf hq) (fun f' h' e ρ' a' w' q1 q2 q3 => ?_) (fun hn => absurd rfl (hn _ _))
  cases e
  exact q ro n ρ' a' w' q1 q2 (hl.ext q3)
end Go.Eng

namespace Go.Eng
open Go

variable {P : Program} {tb : Tab} {ρ : Ren} {h h' : EH} {w : World}

/-- A call of a function whose body's run is known; the frame may know less than the arguments. -/
theorem calls_sound1 (ht : FnOk P tb) {g : FuncId} {fn : Func} {c : Code} {f0 f' : Fr} {vs : List EV} {args' : Array Value} (hfn : tb.fn g = some fn) (hbody : fn.body = some c) (hs : Sound1 P false c f0 h (.ret f' h')) (hvs : resE tb f' h' fn.results.toList = some vs)
    (hr : Rel P ρ h w) (hf : FRel ρ f0 (args' ++ Array.replicate (fn.ntmps - args'.size) undef)) (n : Nat) : CallsIn Fence.wide n P g args' w fun e w' => ∃ v', e = .returned v' ∧ CPost P ρ h w (retE vs) h' v' w' := by
  refine callsIn_of_wp_marks (ht.fn g fn hfn) hbody trivial ?_
  have hwp := hs none n ρ { tmps := args' ++ Array.replicate (fn.ntmps - args'.size) undef, defers := [] } w hf hr (fun _ e => by cases e)
  refine wpIn_mono hwp fun e a' w' hpost => ?_
  obtain ⟨ρ', f2, h3, q1, q2, q3, q4, bs, q5, q6, q7⟩ := hpost
  rw [List.append_nil] at q5
  cases e with
  | ret =>
    obtain ⟨rfl, rfl⟩ := q1
    show LeavesInM Fence.wide n P fn a'.tmps (fun e w' => ∃ v', e = .returned v' ∧ CPost P ρ h w (retE vs) h3 v' w') a'.defers .returning w'
    rw [q5]
    exact leaves_marks ht.toTabOk q2 hvs bs w' q3 q4 q6 q7 fun v' w'' r1 r2 r3 => ⟨v', rfl, ρ', r1, r2, r3⟩
  | _ => exact q1.elim

theorem call_sound1 (ht : FnOk P tb) {g : FuncId} {fn : Func} {c : Code} {f0 f' : Fr} {vs : List EV} {args' : Array Value} (hfn : tb.fn g = some fn) (hbody : fn.body = some c) (hs : Sound1 P false c f0 h (.ret f' h')) (hvs : resE tb f' h' fn.results.toList = some vs)
    (hr : Rel P ρ h w) (hf : FRel ρ f0 (args' ++ Array.replicate (fn.ntmps - args'.size) undef)) : CallOk P g args' w (CPost P ρ h w (retE vs) h') :=
  .inl ⟨ht.enter g fn c hfn hbody _ _, calls_sound1 ht hfn hbody hs hvs hr hf⟩
end Go.Eng

/- A part of the proof of CarveSides: a verified interpreter of the model's own code, its soundness, and contracts of the library's functions. Conditions: none. -/
import Derived.Test.YtficpbnmmchpeaaGreatDoorEngB
namespace Go.Eng
open Go
variable [Syms]

variable {P : Program} {tb : Tab} {ρ : Ren} {h : EH} {w : World} {nm : Nat} {f : Fr} {a : Act} {o : Oper} {r : OR}

theorem Rel.map_at (hr : Rel P ρ h w) {n : Nat} {L : Loc} {es : List (EV × EV × Nat)} {clock : Nat} (hg : h.get n = some (.map es clock)) (hn : ρ n = some L) :
    ∃ xs, w.heap[L.b]? = some (.map xs clock) ∧ MRel ρ es xs.toList := hr.live n _ L hg hn

omit [Syms] in
theorem run_getMap {P : Program} {w : World} {b : Nat} {xs : Array MapEntry} {clock : Nat} (h : w.heap[b]? = some (.map xs clock)) : (getObj b).run P w = .ok (.map xs clock) w :=
  run_getObj h (fun _ _ _ e => by cases e)

/-! ### Keys -/

theorem run_checkKey (ht : TabOk P tb) {t : TypeId} {k : EV} {k' : Value} (hk : VRel ρ k k') (hx : keyOk tb t k = true) (b : Bool) (n : Nat) (w : World) : (Instr.checkKey b (n + 2) t k').run P w = .ok () w := by
  unfold keyOk at hx
  split at hx
  · rename_i hd; cases hk
    unfold Instr.checkKey
    simp only [Sem.run_bind, ht.run_und hd, Result.andThen_ok]; rfl
  · rename_i hd; cases hk
    unfold Instr.checkKey
    simp only [Sem.run_bind, ht.run_und hd, Result.andThen_ok]; rfl
  · rename_i m hd
    obtain ⟨b', hb⟩ := Option.isSome_iff_exists.1 hx
    obtain ⟨s, hs, _⟩ := ht.eqs _ _ _ hb
    cases hk with | sym _ _ hv _ => ?_
    rw [hs] at hv
    subst hv
    unfold Instr.checkKey
    simp only [Sem.run_bind, ht.run_und hd, Result.andThen_ok]; rfl
  · rename_i m hd
    obtain ⟨b', hb⟩ := Option.isSome_iff_exists.1 hx
    obtain ⟨s, hs⟩ := ht.kinds _ _ hb
    cases hk with | sym _ _ hv _ => ?_
    rw [hs] at hv
    subst hv
    unfold Instr.checkKey
    simp only [Sem.run_bind, ht.run_und hd, Result.andThen_ok]; rfl
  · rename_i fs xs hd
    cases hk with | agg _ xs' hxs => ?_
    unfold Instr.checkKey
    simp only [Sem.run_bind, ht.run_und hd, Result.andThen_ok]
    rw [← Array.forIn_toList]
    generalize fs.toList = l at hx
    clear hd
    induction l with
    | nil => rfl
    | cons fd l ih =>
      simp only [List.all_cons, Bool.and_eq_true] at hx
      obtain ⟨hx1, hx2⟩ := hx
      simp only [List.forIn_cons, Sem.run_bind]
      have one : ((if fd.name ≠ "_" then do
          let __do_lift ← part fd.type xs' fd.offset
          Instr.checkKey b (n + 1) fd.type __do_lift
          pure PUnit.unit
          pure (ForInStep.yield PUnit.unit)
        else do pure PUnit.unit; pure (ForInStep.yield PUnit.unit)) : Sem (ForInStep PUnit)).run P w = .ok (.yield PUnit.unit) w := by
        split
        · split at hx1
          all_goals first | (cases hx1; done) | skip
          all_goals
            rename_i hd' hc
            obtain ⟨v, h1, h2⟩ := hxs.getA hc
            have hp : (part fd.type xs' fd.offset).run P w = .ok v w := by
              unfold part
              simp [ht.run_isAgg hd', isAggD, h1]
            simp only [Sem.run_bind, hp, Result.andThen_ok]
            cases h2
            unfold Instr.checkKey
            simp only [Sem.run_bind, ht.run_und hd', Result.andThen_ok]
            rfl
        · rfl
      rw [one, Result.andThen_ok]
      exact ih hx2
  · cases hx

theorem keyEq_now {d : TypeDesc} {x y : EV} {x' y' : Value} {b : Bool} (hx : VRel ρ x x') (hy : VRel ρ y y') (he : keyEq d x y = some b) : Instr.sameNow d x' y' = some b := by
  unfold keyEq at he
  split at he
  · cases hx; cases hy
    split at he
    · rename_i hk; cases he
      simp only [Instr.sameNow, if_pos hk, int_beq]
    · cases he
  · cases hx with | str s _ hs => ?_
    cases hy with | str s' _ hs' => ?_
    subst hs hs'
    cases he
    simp only [Instr.sameNow, beq_toListBytes, string_beq]
  · cases he
  · cases he

theorem keyEqS_now (ht : TabOk P tb) {d : TypeDesc} {x y : EV} {x' y' : Value} {b : Bool} (hx : VRel ρ x x') (hy : VRel ρ y y') (he : keyEqS tb d x y = some b) : Instr.sameNow d x' y' = some b := by
  by_cases hs : (∃ k, x = .sym k) ∨ ∃ k, y = .sym k
  · have he' : eqOne tb d x y = some b := by
      rcases hs with ⟨k, rfl⟩ | ⟨k, rfl⟩
      · cases d <;> first | (cases he; done) | exact he
      · cases d <;> cases x <;> first | (cases he; done) | exact he
    rcases sym_meets ht hs hx hy he' with ⟨rfl, s, s', rfl, rfl, hq⟩ | ⟨j, k, c, e, rfl, rfl, rfl, hq⟩
    · simp only [Instr.sameNow, beq_toListBytes, string_beq, hq]
    · simp only [Instr.sameNow, int_beq, hq, if_true]
  · have he' : keyEq d x y = some b := by
      cases x <;> cases y <;> first | exact he | exact absurd (.inl ⟨_, rfl⟩) hs | exact absurd (.inr ⟨_, rfl⟩) hs
    exact keyEq_now hx hy he'

/-- What a search among the entries came to. -/
inductive FindR (ρ : Ren) : Option (Nat × EV) → Option (Nat × Value) → Prop where
  | none : FindR ρ none none
  | some (i : Nat) (e : EV) (v : Value) (h : VRel ρ e v) : FindR ρ (some (i, e)) (some (i, v))

theorem find_now (ht : TabOk P tb) {d : TypeDesc} {t : TypeId} {k : EV} {k' : Value} (hd : tb.und t = some d) (hns : ∀ fs, d ≠ .struct fs) (hk : VRel ρ k k') : ∀ {es : List (EV × EV × Nat)} {xs : List MapEntry} {i : Nat} {x : Option (Nat × EV)},
    MRel ρ es xs → findE tb t k es i = some x → ∃ y, Instr.findNow d k' xs i = some y ∧ FindR ρ x y
  | [], [], i, x, _, hx => by cases hx; exact ⟨none, rfl, .none⟩
  | (ek, ev, eb) :: es, e :: xs, i, x, ⟨h1, h2, h3, h4⟩, hx => by
    have hkeq : keyEqT tb t k ek = keyEqS tb d k ek := by
      unfold keyEqT
      rw [hd]
      cases d <;> first | rfl | exact absurd rfl (hns _)
    unfold findE at hx
    rw [hkeq] at hx
    split at hx
    · rename_i hq; cases hx
      exact ⟨some (i, e.val), by simp only [Instr.findNow, keyEqS_now ht hk h1 hq], .some _ _ _ h2⟩
    · rename_i hq
      obtain ⟨y, g1, g2⟩ := find_now ht hd hns hk h4 hx
      exact ⟨y, by simp only [Instr.findNow, keyEqS_now ht hk h1 hq]; exact g1, g2⟩
    · cases hx

theorem find_asking (ht : TabOk P tb) {fs : Array Field} {t : TypeId} {k : EV} {k' : Value} (hd : tb.und t = some (.struct fs)) (hk : VRel ρ k k') (w : World) : ∀ {es : List (EV × EV × Nat)} {xs : List MapEntry} {i : Nat} {x : Option (Nat × EV)},
    MRel ρ es xs → findE tb t k es i = some x → ∃ y, (Instr.findAsking t k' xs i).run P w = .ok y w ∧ FindR ρ x y
  | [], [], i, x, _, hx => by cases hx; exact ⟨none, rfl, .none⟩
  | (ek, ev, eb) :: es, e :: xs, i, x, ⟨h1, h2, h3, h4⟩, hx => by
    have key : ∀ b, keyEqT tb t k ek = some b → (Op.equal t k' e.key).run P w = .ok b w := by
      intro b hb
      have : eqE tb t k ek = some b := by
        unfold keyEqT at hb
        unfold eqE
        rw [hd] at hb ⊢
        revert hb
        cases k <;> cases ek <;> first | exact fun h => h | (intro h; cases h)
      exact (eqE_rel ht hk h1 this 9998 w).1
    unfold findE at hx
    split at hx
    · rename_i hq; cases hx
      refine ⟨some (i, e.val), ?_, .some _ _ _ h2⟩
      simp only [Instr.findAsking, Sem.run_bind, key _ hq, Result.andThen_ok]; rfl
    · rename_i hq
      obtain ⟨y, g1, g2⟩ := find_asking ht hd hk w h4 hx
      refine ⟨y, ?_, g2⟩
      simp only [Instr.findAsking, Sem.run_bind, key _ hq, Result.andThen_ok]
      exact g1
    · cases hx

theorem run_findKey (ht : TabOk P tb) {t : TypeId} {k : EV} {k' : Value} (hk : VRel ρ k k') (hok : keyOk tb t k = true) {es : List (EV × EV × Nat)} {xs : List MapEntry} {x : Option (Nat × EV)} (hm : MRel ρ es xs) (hx : findE tb t k es 0 = some x) (w : World) :
    ∃ y, (Instr.findKey t k' xs).run P w = .ok y w ∧ FindR ρ x y := by
  have hdd : ∃ d, tb.und t = some d := by
    unfold keyOk at hok
    split at hok
    · exact ⟨_, by assumption⟩
    · exact ⟨_, by assumption⟩
    · exact ⟨_, by assumption⟩
    · exact ⟨_, by assumption⟩
    · exact ⟨_, by assumption⟩
    · cases hok
  obtain ⟨d, hd⟩ := hdd
  unfold Instr.findKey
  simp only [Sem.run_bind, ht.run_und hd, Result.andThen_ok]
  by_cases hs : ∃ fs, d = .struct fs
  · obtain ⟨fs, rfl⟩ := hs
    obtain ⟨y, h1, h2⟩ := find_asking ht hd hk w hm hx
    cases xs with
    | nil =>
      cases h1
      exact ⟨none, rfl, h2⟩
    | cons e xs =>
      refine ⟨y, ?_, h2⟩
      have : Instr.findNow (.struct fs) k' (e :: xs) 0 = none := rfl
      rw [this]
      exact h1
  · obtain ⟨y, h1, h2⟩ := find_now ht hd (fun fs e => hs ⟨fs, e⟩) hk hm hx
    exact ⟨y, by rw [h1]; rfl, h2⟩

theorem lookup_rel (ht : TabOk P tb) (hr : Rel P ρ h w) {t : TypeId} {m k : EV} {m' k' : Value} {ok : Bool} {e : EV} (hm : VRel ρ m m') (hk : VRel ρ k k') (hx : lookupE tb h t m k ok = some e) :
    ∃ v, (Instr.lookup t m' k' ok).run P w = .ok v w ∧ VRel ρ e v := by
  unfold lookupE at hx
  split at hx
  · rename_i kt et hd
    cases hok : keyOk tb kt k with
    | false => rw [hok] at hx; cases hx
    | true =>
      rw [hok] at hx
      simp only [cond_true] at hx
      have key : ∀ (es : List (EV × EV × Nat)) (xs : Array MapEntry), MRel ρ es xs.toList → (match findE tb kt k es 0 with
          | some (some (_, v)) => some (cond ok (.tuple [v, .bool true]) v)
          | some none => match tb.zero et with
            | some z => some (cond ok (.tuple [z, .bool false]) z)
            | none => none
          | none => none) = some e → ∃ v, VRel ρ e v ∧ ((∃ i v0, (Instr.findKey kt k' xs.toList).run P w = .ok (some (i, v0)) w ∧ v = if ok then .tuple #[v0, .bool true] else v0) ∨
            ((Instr.findKey kt k' xs.toList).run P w = .ok none w ∧ ∃ zv, (∀ w, (zeroValue et).run P w = .ok zv w) ∧ v = if ok then .tuple #[zv, .bool false] else zv)) := by
        intro es xs hmr hq
        split at hq
        · rename_i i v hf
          cases hq
          obtain ⟨y, h1, h2⟩ := run_findKey ht hk hok hmr hf w
          cases h2 with | some _ _ v' hv => ?_
          refine ⟨if ok then .tuple #[v', .bool true] else v', ?_, .inl ⟨i, v', h1, rfl⟩⟩
          cases ok
          · exact hv
          · exact .tuple _ _ (.cons _ _ _ _ hv (.cons _ _ _ _ (.bool _) .nil))
        · rename_i hf
          split at hq
          · rename_i z hz
            cases hq
            obtain ⟨y, h1, h2⟩ := run_findKey ht hk hok hmr hf w
            cases h2
            obtain ⟨zv, hzr, hzv⟩ := zero_rel ht hz
            refine ⟨if ok then .tuple #[zv, .bool false] else zv, ?_, .inr ⟨h1, zv, hzr, rfl⟩⟩
            cases ok
            · exact hzv ρ
            · exact .tuple _ _ (.cons _ _ _ _ (hzv ρ) (.cons _ _ _ _ (.bool _) .nil))
          · cases hq
        · cases hq
      unfold Instr.lookup
      split at hx
      · rename_i es hes
        split at hes
        · cases hes
          cases hm
          obtain ⟨v, h2, hq⟩ := key [] #[] trivial hx
          refine ⟨v, ?_, h2⟩
          simp only [Sem.run_bind, ht.run_und hd, Result.andThen_ok, Sem.run_pure, run_checkKey ht hk hok _ 9998]
          rcases hq with ⟨i, v0, h3, rfl⟩ | ⟨h3, zv, h4, rfl⟩
          · simp only [h3, Result.andThen_ok, Sem.run_bind, Sem.run_pure]
          · simp only [h3, Result.andThen_ok, h4, Sem.run_bind, Sem.run_pure]
        · rename_i n
          split at hes
          · rename_i es' clock hg
            cases hes
            cases hm with | map _ L hn => ?_
            obtain ⟨xs, hxs, hmr⟩ := hr.map_at hg hn
            obtain ⟨v, h2, hq⟩ := key es xs hmr hx
            refine ⟨v, ?_, h2⟩
            simp only [Sem.run_bind, ht.run_und hd, Result.andThen_ok, run_getMap hxs, Sem.run_pure, run_checkKey ht hk hok _ 9998]
            rcases hq with ⟨i, v0, h3, rfl⟩ | ⟨h3, zv, h4, rfl⟩
            · simp only [h3, Result.andThen_ok, Sem.run_bind, Sem.run_pure]
            · simp only [h3, Result.andThen_ok, h4, Sem.run_bind, Sem.run_pure]
          · cases hes
        · cases hes
      · cases hx
  · cases hx

theorem sound_lookup {t : TypeId} {x k : Operand} {ok : Bool} (ht : TabOk P tb) (hf : FRel ρ f a.tmps) (hr : Rel P ρ h w) (ho : o.op = .lookup t x k ok) (hx : opE tb h nm f o = some r) : Good P ρ h w nm o a r := by
  simp only [opE, ho] at hx
  split at hx
  · rename_i h1 h2
    obtain ⟨e, h3, rfl⟩ := map_some hx
    exact good_v (s := Instr.lookup t (a.eval x) (a.eval k) ok) (by simp only [execOp, ho]) hr (lookup_rel ht hr (ev_rel hf h1) (ev_rel hf h2) h3)
  · cases hx

/-! ### Maps that turn -/

theorem MRel.push {es : List (EV × EV × Nat)} {xs : List MapEntry} {k v : EV} {e : MapEntry} {c : Nat} (h : MRel ρ es xs) (h1 : VRel ρ k e.key) (h2 : VRel ρ v e.val) (h3 : c = e.born) : MRel ρ (es ++ [(k, v, c)]) (xs ++ [e]) := by
  induction es generalizing xs with
  | nil => cases xs with
    | nil => exact ⟨h1, h2, h3, trivial⟩
    | cons _ _ => cases h
  | cons x es ih => cases xs with
    | nil => cases h
    | cons y xs =>
      obtain ⟨a, b, c, d⟩ := h
      exact ⟨a, b, c, ih d⟩

theorem MRel.erase {es : List (EV × EV × Nat)} {xs : List MapEntry} (i : Nat) (h : MRel ρ es xs) : MRel ρ (es.eraseIdx i) (xs.eraseIdx i) := by
  induction es generalizing xs i with
  | nil => cases xs with
    | nil => exact trivial
    | cons _ _ => cases h
  | cons x es ih => cases xs with
    | nil => cases h
    | cons y xs =>
      obtain ⟨a, b, c, d⟩ := h
      cases i with
      | zero => exact d
      | succ i => exact ⟨a, b, c, ih i d⟩

theorem MRel.setVal {es : List (EV × EV × Nat)} {xs : List MapEntry} {k v : EV} {k' v' : Value} (i : Nat) (h : MRel ρ es xs) (h1 : VRel ρ k k') (h2 : VRel ρ v v') :
    MRel ρ (Eng.setVal k v es i) (xs.modify i fun e => { e with key := k', val := v' }) := by
  induction es generalizing xs i with
  | nil => cases xs with
    | nil => cases i <;> exact trivial
    | cons _ _ => cases h
  | cons x es ih => cases xs with
    | nil => cases h
    | cons y xs =>
      obtain ⟨a, b, c, d⟩ := h
      obtain ⟨x1, x2, x3⟩ := x
      cases i with
      | zero => exact ⟨h1, h2, c, d⟩
      | succ i =>
        rw [List.modify_succ_cons]
        exact ⟨a, b, c, ih i d⟩

theorem MRel.keyAt {es : List (EV × EV × Nat)} {xs : List MapEntry} (h : MRel ρ es xs) {i : Nat} (hi : i < xs.length) : ∃ e, xs[i]? = some e ∧ VRel ρ (Eng.keyAt es i) e.key := by
  induction es generalizing xs i with
  | nil => cases xs with
    | nil => simp at hi
    | cons _ _ => cases h
  | cons x es ih => cases xs with
    | nil => cases h
    | cons y xs =>
      obtain ⟨a, b, c, d⟩ := h
      cases i with
      | zero => exact ⟨y, rfl, a⟩
      | succ i =>
        obtain ⟨e, h1, h2⟩ := ih d (i := i) (by simpa using hi)
        exact ⟨e, by simpa using h1, h2⟩

theorem cellSame_rel {x y : EV} {x' y' : Value} (hx : VRel ρ x x') (hy : VRel ρ y y') (hs : cellSame x y = true) (n : Nat) : Instr.sameBits n x' y' = true := by
  unfold cellSame at hs
  split at hs
  · cases hx; cases hy
    simp only [Bool.and_eq_true, decide_eq_true_eq] at hs
    obtain ⟨rfl, rfl⟩ := hs
    cases n <;> simp [Instr.sameBits]
  · cases hx with | str s _ h1 => ?_
    cases hy with | str s' _ h2 => ?_
    subst h1 h2
    cases n <;> simp only [Instr.sameBits, beq_toListBytes, string_beq, hs]
  · cases hx; cases hy
    cases n <;> simpa [Instr.sameBits] using hs
  · cases hs

theorem cellsSame_rel : ∀ {xs ys : List EV} {xs' ys' : List Value}, VRels ρ xs xs' → VRels ρ ys ys' → cellsSame xs ys = true → ∀ n, xs'.length = ys'.length ∧ ((xs'.zip ys').all fun p => Instr.sameBits n p.1 p.2) = true
  | [], [], [], [], _, _, _, n => ⟨rfl, rfl⟩
  | _ :: _, _ :: _, _ :: _, _ :: _, .cons _ _ _ _ h1 h2, .cons _ _ _ _ h3 h4, hs, n => by
    simp only [cellsSame, Bool.and_eq_true] at hs
    obtain ⟨g1, g2⟩ := cellsSame_rel h2 h4 hs.2 n
    exact ⟨by simp [g1], by simp only [List.zip_cons_cons, List.all_cons, Bool.and_eq_true]; exact ⟨cellSame_rel h1 h3 hs.1 n, g2⟩⟩

theorem keySame_rel (ht : TabOk P tb) {t : TypeId} {x y : EV} {x' y' : Value} (hx : VRel ρ x x') (hy : VRel ρ y y') (hok : keyOk tb t y = true) (hs : keySame x y = true) : Instr.sameBits 10000 x' y' = true := by
  unfold keySame at hs
  split at hs
  · cases hx with | agg _ xs' h1 => ?_
    cases hy with | agg _ ys' h2 => ?_
    obtain ⟨g1, g2⟩ := cellsSame_rel h1 h2 hs 9999
    simp only [Instr.sameBits, Bool.and_eq_true, beq_iff_eq]
    exact ⟨by simpa using g1, g2⟩
  · rename_i a b
    obtain rfl := Nat.eq_of_beq_eq_true hs
    cases hx with | sym _ _ h1 _ => ?_
    cases hy with | sym _ _ h2 _ => ?_
    rw [h1] at h2
    subst h2
    have hv : (∃ s, Syms.val a = .string s) ∨ ∃ k c, Syms.val a = .int k c := by
      unfold keyOk at hok
      cases hu : tb.und t with
      | none => rw [hu] at hok; cases hok
      | some d =>
        rw [hu] at hok
        cases d <;> first | (cases hok; done) | skip
        case string =>
          obtain ⟨b', hb⟩ := Option.isSome_iff_exists.1 hok
          obtain ⟨s, hs', _⟩ := ht.eqs _ _ _ hb
          exact .inl ⟨s, hs'⟩
        case int =>
          obtain ⟨b', hb⟩ := Option.isSome_iff_exists.1 hok
          obtain ⟨c, hs'⟩ := ht.kinds _ _ hb
          exact .inr ⟨_, c, hs'⟩
    rcases hv with ⟨s, hv⟩ | ⟨k, c, hv⟩
    · rw [hv] at h1
      subst h1
      simp only [Instr.sameBits, beq_toListBytes, string_beq, strEq_eq, decide_true]
    · rw [hv] at h1
      subst h1
      simp [Instr.sameBits]
  · exact cellSame_rel hx hy hs 10000

omit [Syms] in
theorem findE_lt {t : TypeId} {k : EV} : ∀ {es : List (EV × EV × Nat)} {i j : Nat} {v : EV}, findE tb t k es i = some (some (j, v)) → i ≤ j ∧ j < i + es.length
  | [], i, j, v, h => by cases h
  | (ek, ev, eb) :: es, i, j, v, h => by
    unfold findE at h
    split at h
    · cases h; exact ⟨Nat.le_refl _, by simp⟩
    · have := findE_lt h
      simp only [List.length_cons]; omega
    · cases h

theorem MRel.length {es : List (EV × EV × Nat)} {xs : List MapEntry} (h : MRel ρ es xs) : es.length = xs.length := by
  induction es generalizing xs with
  | nil => cases xs with
    | nil => rfl
    | cons _ _ => cases h
  | cons x es ih => cases xs with
    | nil => cases h
    | cons y xs => simp [ih h.2.2.2]

theorem mapPut_rel (ht : TabOk P tb) (hr : Rel P ρ h w) (S : Nat → Prop) {t : TypeId} {m k v : EV} {m' k' v' : Value} {h' : EH} (hm : VRel ρ m m') (hk : VRel ρ k k') (hv : VRel ρ v v') (hx : mapPutE tb h t m k v = some h') :
    ∃ w', (Instr.mapUpdate t m' k' v').run P w = .ok () w' ∧ Rel P ρ h' w' ∧ Extd S ρ h w ρ h' w' := by
  unfold mapPutE at hx
  split at hx
  · rename_i kt et hd
    cases hok : keyOk tb kt k with
    | false => rw [hok] at hx; cases hx
    | true =>
      rw [hok] at hx
      simp only [cond_true] at hx
      split at hx
      · rename_i n
        split at hx
        · rename_i es clock hg
          cases hm with | map _ L hn => ?_
          obtain ⟨xs, hxs, hmr⟩ := hr.map_at hg hn
          unfold Instr.mapUpdate
          simp only [Sem.run_bind, ht.run_und hd, Result.andThen_ok, run_getMap hxs, run_checkKey ht hk hok _ 9998]
          split at hx
          · rename_i i v0 hf
            cases hs : keySame (Eng.keyAt es i) k with
            | false => rw [hs] at hx; cases hx
            | true =>
              rw [hs] at hx
              cases hx
              obtain ⟨y, h1, h2⟩ := run_findKey ht hk hok hmr hf w
              cases h2 with | some _ _ v0' hv0 => ?_
              have hlt := findE_lt hf
              obtain ⟨e, he, hke⟩ := hmr.keyAt (i := i) (by rw [← hmr.length]; omega)
              have he' : xs[i]? = some e := by simpa using he
              simp only [h1, Result.andThen_ok, he', Option.map_some, Option.getD_some, Instr.keyThatStays, keySame_rel ht hke hk hok hs, if_true, Sem.run_bind, Sem.run_pure, run_setObj hxs (fun _ _ _ e => by cases e)]
              refine ⟨_, rfl, hr.turn S hg hn (turned_setObj hxs) ⟨_, rfl, ?_⟩⟩
              rw [Array.toList_modify]
              exact hmr.setVal i hk hv
          · rename_i hf
            cases hx
            obtain ⟨y, h1, h2⟩ := run_findKey ht hk hok hmr hf w
            cases h2
            simp only [h1, Result.andThen_ok, run_setObj hxs (fun _ _ _ e => by cases e)]
            refine ⟨_, rfl, hr.turn S hg hn (turned_setObj hxs) ⟨_, rfl, ?_⟩⟩
            rw [Array.toList_push]
            exact hmr.push hk hv rfl
          · cases hx
        · cases hx
      · cases hx
  · cases hx

theorem sound_mapUpdate {t : TypeId} {m k v : Operand} (ht : TabOk P tb) (hf : FRel ρ f a.tmps) (hr : Rel P ρ h w) (ho : o.op = .mapUpdate t m k v ∨ o.op = .insert t m k v) (hx : opE tb h nm f o = some r) : Good P ρ h w nm o a r := by
  rcases ho with ho | ho <;>
  · simp only [opE, ho] at hx
    split at hx
    · rename_i h1 h2 h3
      obtain ⟨h', h4, rfl⟩ := map_some hx
      exact good_skip (s := Instr.mapUpdate t (a.eval m) (a.eval k) (a.eval v)) (by simp only [execOp, ho]) (mapPut_rel ht hr _ (ev_rel hf h1) (ev_rel hf h2) (ev_rel hf h3) h4)
    · cases hx

theorem mapDel_rel (ht : TabOk P tb) (hr : Rel P ρ h w) (S : Nat → Prop) {t : TypeId} {m k : EV} {m' k' : Value} {h' : EH} {ts : Array TypeId} {args : Array Value} {ty : TypeId} (h0 : ts[0]? = some t) (h1 : args[0]? = some m') (h2 : args[1]? = some k') (hm : VRel ρ m m') (hk : VRel ρ k k') (hx : mapDelE tb h t m k = some h') :
    ∃ w', (Builtin.delete_ ts ty args).run P w = .ok (.tuple #[]) w' ∧ Rel P ρ h' w' ∧ Extd S ρ h w ρ h' w' := by
  unfold mapDelE at hx
  split at hx
  · rename_i kt et hd
    cases hok : keyOk tb kt k with
    | false => rw [hok] at hx; cases hx
    | true =>
      rw [hok] at hx
      simp only [cond_true] at hx
      unfold Builtin.delete_
      simp only [h0, h1, h2, Sem.run_bind, ht.run_und hd, Result.andThen_ok]
      split at hx
      · cases hx
        cases hm
        simp only [Sem.run_bind, run_checkKey ht hk hok _ 9998, Result.andThen_ok, Sem.run_pure]
        exact ⟨w, rfl, hr, .refl _ _ _ _⟩
      · rename_i n
        split at hx
        · rename_i es clock hg
          cases hm with | map _ L hn => ?_
          obtain ⟨xs, hxs, hmr⟩ := hr.map_at hg hn
          simp only [Sem.run_bind, Result.andThen_ok, run_getMap hxs, run_checkKey ht hk hok _ 9998]
          split at hx
          · rename_i i v0 hf
            cases hx
            obtain ⟨y, h3, h4⟩ := run_findKey ht hk hok hmr hf w
            cases h4 with | some _ _ v0' hv0 => ?_
            simp only [h3, Result.andThen_ok, Sem.run_bind, run_setObj hxs (fun _ _ _ e => by cases e), Sem.run_pure]
            refine ⟨_, rfl, hr.turn S hg hn (turned_setObj hxs) ⟨_, rfl, ?_⟩⟩
            have := hmr.erase i
            simpa using this
          · rename_i hf
            cases hx
            obtain ⟨y, h3, h4⟩ := run_findKey ht hk hok hmr hf w
            cases h4
            simp only [h3, Result.andThen_ok, Sem.run_bind, run_setObj hxs (fun _ _ _ e => by cases e), Sem.run_pure]
            have hsame : ({ w with heap := w.heap.setIfInBounds L.b (.map xs clock) } : World).heap = w.heap := by
              apply Array.ext_getElem?
              intro i
              simp only [Array.getElem?_setIfInBounds]
              split
              · rename_i e; subst e
                rw [hxs]
                have := (Array.getElem?_eq_some_iff.1 hxs).1
                simp [this]
              · rfl
            obtain ⟨r1, r2⟩ := hr.same S (w' := { w with heap := w.heap.setIfInBounds L.b (.map xs clock) }) hsame rfl rfl rfl
            exact ⟨_, rfl, r1, r2⟩
          · cases hx
        · cases hx
      · cases hx
  · cases hx

end Go.Eng

namespace Go.Eng
open Go
variable [Syms]

variable {P : Program} {tb : Tab} {ρ : Ren} {h : EH} {w : World} {nm : Nat} {f : Fr} {a : Act} {o : Oper} {r : OR}

theorem sound_range {t : TypeId} {x : Operand} (ht : TabOk P tb) (hf : FRel ρ f a.tmps) (hr : Rel P ρ h w) (hn : ρ nm = none) (hlt : nm < h.next) (ho : o.op = .range t x) (hx : opE tb h nm f o = some r) : Good P ρ h w nm o a r := by
  simp only [opE, ho] at hx
  have he : execOp a.eval o = (do pure (.value (← Instr.range t (a.eval x)))) := by simp only [execOp, ho]
  split at hx
  · rename_i s hd h1
    cases hx
    have hxr := ev_rel hf h1
    generalize hv : a.eval x = v at hxr he
    cases hxr with | str s' _ hs => ?_
    obtain ⟨g1, g2⟩ := hr.new (w' := { w with heap := w.heap.push (.stringIter s' 0) }) (o := .strIter s 0) (sz := 0) hn hlt rfl rfl rfl rfl ⟨rfl, s', rfl, hs⟩
    refine good_new (hz := by simp only [noisy, ho]) he ⟨_, .pointer (some ⟨w.heap.size, 0, none⟩), _, ?_, .ptr nm 0 _ (Ren.put_same _ _ _), g1, g2⟩
    unfold Instr.range
    simp only [Sem.run_bind, ht.run_und hd, Result.andThen_ok, Sem.run_pure, run_newObj]
  · rename_i kt et hd h1
    cases hx
    have hxr := ev_rel hf h1
    generalize hv : a.eval x = v at hxr he
    cases hxr
    obtain ⟨g1, g2⟩ := hr.new (w' := { w with heap := w.heap.push (.mapIter none 0 #[] 0) }) (o := .mapIter none 0 [] 0) (sz := 0) hn hlt rfl rfl rfl rfl ⟨rfl, none, #[], rfl, rfl, fun _ => rfl, fun n e => by cases e⟩
    refine good_new (hz := by simp only [noisy, ho]) he ⟨_, .pointer (some ⟨w.heap.size, 0, none⟩), _, ?_, .ptr nm 0 _ (Ren.put_same _ _ _), g1, g2⟩
    unfold Instr.range
    simp only [Sem.run_bind, ht.run_und hd, Result.andThen_ok, Sem.run_pure, run_newObj]
  · rename_i kt et m hd h1
    split at hx
    · rename_i es clock hg
      cases hx
      have hxr := ev_rel hf h1
      generalize hv : a.eval x = v at hxr he
      cases hxr with | map _ L hL => ?_
      obtain ⟨xs, hxs, _⟩ := hr.map_at hg hL
      have hne : m ≠ nm := fun e => by subst e; rw [hn] at hL; cases hL
      obtain ⟨g1, g2⟩ := hr.new (w' := { w with heap := w.heap.push (.mapIter (some L.b) clock #[] clock) }) (o := .mapIter (some m) clock [] clock) (sz := 0) hn hlt rfl rfl rfl rfl
        ⟨rfl, some L.b, #[], rfl, rfl, (fun e => by cases e), fun n e => by cases e; exact ⟨L, by rw [Ren.put_other _ _ hne]; exact hL, rfl⟩⟩
      refine good_new (hz := by simp only [noisy, ho]) he ⟨_, .pointer (some ⟨w.heap.size, 0, none⟩), _, ?_, .ptr nm 0 _ (Ren.put_same _ _ _), g1, g2⟩
      unfold Instr.range
      simp only [Sem.run_bind, ht.run_und hd, Result.andThen_ok, run_getMap hxs, Sem.run_pure, run_newObj]
    · cases hx
  · cases hx

omit [Syms] in
theorem bytesOf_of (s : ByteArray) : bytesOf (ofBytes s) = s := by
  unfold bytesOf ofBytes
  apply ByteArray.ext
  apply Array.toList_inj.1
  show (s.data.toList.map fun x => x.toNat).map UInt8.ofNat = s.data.toList
  rw [List.map_map]
  conv => rhs; rw [← List.map_id s.data.toList]
  exact List.map_congr_left fun x _ => by simp

omit [Syms] in
theorem nextStr_rel {s : ByteArray} {pos : Nat} {x : Option (Nat × Nat)} (hx : nextStr (ofBytes s) pos = some x) : (x = none ∧ ¬ pos < s.size) ∨ pos < s.size ∧ x = some (Utf8.decode s pos) := by
  unfold nextStr at hx
  split at hx
  · rename_i hd
    cases hx
    refine .inl ⟨rfl, ?_⟩
    have := congrArg List.length hd
    simp [ofBytes_length] at this
    omega
  · rename_i b l hd
    have h0 : (ofBytes s)[pos]? = some b := by
      have : ((ofBytes s).drop pos)[0]? = some b := by rw [hd]; rfl
      rw [List.getElem?_drop] at this
      simpa using this
    obtain ⟨c, hc, hcb⟩ := ofBytes_get h0
    have hlt : pos < s.size := by
      by_cases hl : pos < s.size
      · exact hl
      · rw [getElem?_neg s pos hl] at hc; cases hc
    split at hx
    · rename_i hb
      cases hx
      refine .inr ⟨hlt, ?_⟩
      have hg : s.get! (pos + 0) = c := by
        rw [getElem?_pos s pos hlt] at hc
        have hc2 : s[pos] = c := Option.some.inj hc
        show s.get! pos = c
        rw [← hc2]
        show s.data[pos]! = _
        rw [getElem!_pos s.data pos hlt]; rfl
      unfold Utf8.decode
      simp only [hg, hcb]
      rw [if_pos (by omega)]
    · rw [bytesOf_of] at hx
      cases hx
      exact .inr ⟨hlt, rfl⟩

theorem MRel.all {es : List (EV × EV × Nat)} {xs : List MapEntry} (h : MRel ρ es xs) (g : Nat → Bool) : (es.all fun e => g e.2.2) = xs.all fun e => g e.born := by
  induction es generalizing xs with
  | nil => cases xs with
    | nil => rfl
    | cons _ _ => cases h
  | cons x es ih => cases xs with
    | nil => cases h
    | cons y xs =>
      obtain ⟨a, b, c, d⟩ := h
      simp only [List.all_cons, c, ih d]

theorem MRel.filter {es : List (EV × EV × Nat)} {xs : List MapEntry} (h : MRel ρ es xs) (g : Nat → Bool) : MRel ρ (es.filter fun e => g e.2.2) (xs.filter fun e => g e.born) := by
  induction es generalizing xs with
  | nil => cases xs with
    | nil => exact trivial
    | cons _ _ => cases h
  | cons x es ih => cases xs with
    | nil => cases h
    | cons y xs =>
      obtain ⟨a, b, c, d⟩ := h
      simp only [List.filter_cons, ← c]
      split
      · exact ⟨a, b, c, ih d⟩
      · exact ih d

omit [Syms] in
theorem run_forced {P : Program} {w : World} (n : Nat) (hn : n ≤ 1) : (choose (.mapNext n)).run P w = .ok 0 w := by
  simp [choose, Sem.run, Question.forced, hn]

theorem sound_next {it : Operand} {b : Bool} (hf : FRel ρ f a.tmps) (hr : Rel P ρ h w) (ho : o.op = .next it b) (hx : opE tb h nm f o = some r) : Good P ρ h w nm o a r := by
  simp only [opE, ho] at hx
  have he : execOp a.eval o = (do pure (.value (← Instr.next (a.eval it) b o.type))) := by simp only [execOp, ho]
  split at hx
  · rename_i n h1
    have hxr := ev_rel hf h1
    generalize hv : a.eval it = v at hxr he
    cases hxr with | ptr _ _ L hL => ?_
    split at hx
    · rename_i s pos hg
      obtain ⟨hsh, s', hs1, hs2⟩ := hr.live n _ L hg hL
      subst hs2
      rw [hsh] at he
      split at hx
      · rename_i hq
        cases hx
        rcases nextStr_rel hq with ⟨_, hlt⟩ | ⟨_, e⟩
        · refine good_v he hr ⟨.tuple #[.bool false], ?_, .tuple _ _ (.cons _ _ _ _ (.bool _) .nil)⟩
          unfold Instr.next
          simp only [Nat.add_zero, Sem.run_bind, run_getObj hs1 (fun _ _ _ e => by cases e), Result.andThen_ok, if_neg hlt, Sem.run_pure]
        · cases e
      · rename_i c wd hq
        cases hx
        rcases nextStr_rel hq with ⟨e, _⟩ | ⟨hlt, e⟩
        · cases e
        · have hdec : Utf8.decode s' pos = (c, wd) := (Option.some.inj e).symm
          obtain ⟨g1, g2⟩ := hr.turn (o' := .strIter (ofBytes s') (pos + wd)) (x := .stringIter s' (pos + wd)) (· = nm) hg hL (turned_setObj hs1) ⟨hsh, s', rfl, rfl⟩
          refine good_new (hz := by simp only [noisy, ho]) he ⟨ρ, .tuple #[.bool true, goInt pos, .int .i32 c], _, ?_, .tuple _ _ (.cons _ _ _ _ (.bool _) (.cons _ _ _ _ (.int _ _) (.cons _ _ _ _ (.int _ _) .nil))), g1, g2⟩
          unfold Instr.next
          simp only [Nat.add_zero, Sem.run_bind, run_getObj hs1 (fun _ _ _ e => by cases e), Result.andThen_ok, if_pos hlt, Sem.run_pure, hdec, run_setObj hs1 (fun _ _ _ e => by cases e)]
      · cases hx
    · rename_i since seen st hg
      cases hx
      obtain ⟨hsh, m', seen', q1, q2, q3, q4⟩ := hr.live n _ L hg hL
      rw [hsh] at he
      have := q3 rfl
      subst this
      refine good_v he hr ⟨.tuple #[.bool false], ?_, .tuple _ _ (.cons _ _ _ _ (.bool _) .nil)⟩
      unfold Instr.next
      simp only [Nat.add_zero, Sem.run_bind, run_getObj q1 (fun _ _ _ e => by cases e), Result.andThen_ok, Sem.run_pure]
    · rename_i m since seen last hg
      obtain ⟨hsh, m', seen', q1, q2, q3, q4⟩ := hr.live n _ L hg hL
      rw [hsh] at he
      obtain ⟨M, hM, hm'⟩ := q4 m rfl
      subst hm' q2
      split at hx
      · rename_i es clock hgm
        obtain ⟨xs, hxs, hmr⟩ := hr.map_at hgm hM
        have hlen := hmr.length
        have hcond : (!seen'.isEmpty && !xs.isEmpty && xs.all (fun e => decide (e.born ≥ last))) = (!seen'.toList.isEmpty && !es.isEmpty && es.all (fun e => decide (last ≤ e.2.2))) := by
          have e1 : xs.isEmpty = es.isEmpty := by
            rw [← Array.isEmpty_toList]
            cases es <;> cases hxl : xs.toList <;> simp_all
          have e2 := hmr.all fun b => decide (last ≤ b)
          have e3 : seen'.toList.isEmpty = seen'.isEmpty := Array.isEmpty_toList
          have e4 : (xs.toList.all fun e => decide (last ≤ e.born)) = xs.all fun e => decide (e.born ≥ last) := by rw [Array.all_toList]
          rw [e1, e2, e3, e4]
        have hstep : (Instr.next (.pointer (some ⟨L.b, 0 + 0, none⟩)) false o.type).run P w =
            if (!seen'.isEmpty && !xs.isEmpty && xs.all (fun e => decide (e.born ≥ last))) = true then .halt (.unsupported (.noEntry "instr/Next: every entry that the ranged map held at the last iteration is gone, and it holds new ones")) w
            else (do
              let left := xs.filter fun e => !seen'.contains e.born
              let old := left.filter (·.born < since)
              let new := left.filter (·.born ≥ since)
              let candidates := (if old.isEmpty then #[none] else #[]) ++ (old ++ new).map some
              match candidates[← choose (.mapNext candidates.size)]? with
              | some (some e) =>
                setObj L.b (.mapIter (some M.b) since (seen'.push e.born) clock)
                pure (.tuple #[.bool true, e.key, e.val])
              | some none => pure (.tuple #[.bool false])
              | none => stuck "Next: no such candidate" : Sem Value).run P w := by
          unfold Instr.next
          simp only [Nat.add_zero, Sem.run_bind, run_getObj q1 (fun _ _ _ e => by cases e), Result.andThen_ok, run_getMap hxs, Sem.run_ite]
          split <;> rfl
        split at hx
        · cases hx
        · rename_i hnc
          rw [hcond, if_neg (by simpa using hnc)] at hstep
          have hfil := hmr.filter fun b => !seen'.toList.contains b
          have hleft : (xs.filter fun e => !seen'.contains e.born).toList = xs.toList.filter fun e => !seen'.toList.contains e.born := by
            rw [Array.toList_filter]
            congr 1
            funext e
            rw [← Array.contains_toList]
          split at hx
          · rename_i hl0
            cases hx
            rw [hl0] at hfil
            have hl0' : xs.filter (fun e => !seen'.contains e.born) = #[] := by
              apply Array.ext'
              rw [hleft]
              revert hfil
              cases List.filter (fun e => !seen'.toList.contains e.born) xs.toList with
              | nil => intro _; rfl
              | cons _ _ => intro h; cases h
            refine good_v he hr ⟨.tuple #[.bool false], ?_, .tuple _ _ (.cons _ _ _ _ (.bool _) .nil)⟩
            rw [hstep]
            simp only [hl0']
            simp [Question.forced]
          · rename_i k v bn hl1
            split at hx
            · rename_i hb
              cases hx
              rw [hl1] at hfil
              have hl1' : ∃ e, xs.filter (fun e => !seen'.contains e.born) = #[e] ∧ VRel ρ k e.key ∧ VRel ρ v e.val ∧ bn = e.born := by
                revert hfil
                cases hL2 : List.filter (fun e => !seen'.toList.contains e.born) xs.toList with
                | nil => intro h; cases h
                | cons e l =>
                  intro hh
                  obtain ⟨a1, a2, a3, a4⟩ := hh
                  cases l with
                  | cons _ _ => cases a4
                  | nil =>
                    refine ⟨e, ?_, a1, a2, a3⟩
                    apply Array.ext'
                    rw [hleft, hL2]
              obtain ⟨e, e1, e2, e3, e4⟩ := hl1'
              subst e4
              obtain ⟨g1, g2⟩ := hr.turn (o' := .mapIter (some m) since (seen'.toList ++ [e.born]) clock) (x := .mapIter (some M.b) since (seen'.push e.born) clock) (· = nm) hg hL (turned_setObj q1)
                ⟨hsh, some M.b, _, rfl, by simp, (fun e => by cases e), fun n e => by cases e; exact ⟨M, hM, rfl⟩⟩
              refine good_new (hz := by simp only [noisy, ho]) he ⟨ρ, .tuple #[.bool true, e.key, e.val], _, ?_, .tuple _ _ (.cons _ _ _ _ (.bool _) (.cons _ _ _ _ e2 (.cons _ _ _ _ e3 .nil))), g1, g2⟩
              rw [hstep]
              simp only [e1]
              have f1 : (#[e] : Array MapEntry).filter (fun x => decide (x.born < since)) = #[e] := by simp [hb]
              have f2 : (#[e] : Array MapEntry).filter (fun x => decide (x.born ≥ since)) = #[] := by simp; omega
              simp only [f1, f2]
              simp [Question.forced, run_setObj q1 (fun _ _ _ e => by cases e)]
            · cases hx
          · cases hx
      · cases hx
    · cases hx
  · cases hx

theorem MRel.find {es : List (EV × EV × Nat)} {xs : List MapEntry} (h : MRel ρ es xs) (b : Nat) {e : EV × EV × Nat} (he : es.find? (fun e => Nat.beq e.2.2 b) = some e) :
    ∃ x, xs.find? (fun x => x.born == b) = some x ∧ VRel ρ e.1 x.key ∧ VRel ρ e.2.1 x.val := by
  induction es generalizing xs with
  | nil => cases he
  | cons a es ih => cases xs with
    | nil => cases h
    | cons y xs =>
      obtain ⟨h1, h2, h3, h4⟩ := h
      have hbb : (y.born == b) = Nat.beq a.2.2 b := by rw [← h3, Bool.eq_iff_iff]; simp
      simp only [List.find?_cons] at he ⊢
      rw [hbb]
      revert he
      cases Nat.beq a.2.2 b with
      | true => intro he; cases he; exact ⟨y, rfl, h1, h2⟩
      | false => intro he; exact ih h4 he

theorem sound_entry {it : Operand} (hf : FRel ρ f a.tmps) (hr : Rel P ρ h w) (ho : o.op = .entry it) (hx : opE tb h nm f o = some r) : Good P ρ h w nm o a r := by
  simp only [opE, ho] at hx
  have he : execOp a.eval o = (do pure (.value (← Instr.entry (a.eval it)))) := by simp only [execOp, ho]
  split at hx
  · rename_i n h1
    have hxr := ev_rel hf h1
    generalize hv : a.eval it = v at hxr he
    cases hxr with | ptr _ _ L hL => ?_
    split at hx
    · rename_i m since seen last hg
      obtain ⟨hsh, m', seen', q1, q2, q3, q4⟩ := hr.live n _ L hg hL
      rw [hsh] at he
      obtain ⟨M, hM, hm'⟩ := q4 m rfl
      subst hm' q2
      split at hx
      · rename_i es clock b hgm hlast
        obtain ⟨xs, hxs, hmr⟩ := hr.map_at hgm hM
        split at hx
        · rename_i hc
          subst hc
          cases hfd : es.find? (fun e => Nat.beq e.2.2 b) with
          | none => rw [hfd] at hx; cases hx
          | some e =>
            rw [hfd] at hx
            cases hx
            obtain ⟨x, f1, f2, f3⟩ := hmr.find b hfd
            refine good_v he hr ⟨.tuple #[x.key, x.val], ?_, .tuple _ _ (.cons _ _ _ _ f2 (.cons _ _ _ _ f3 .nil))⟩
            have hback : seen'.back? = some b := by rw [← Array.getLast?_toList]; exact hlast
            have hfd' : xs.find? (fun x => x.born == b) = some x := by rw [← Array.find?_toList]; exact f1
            unfold Instr.entry
            simp only [Nat.add_zero, Sem.run_bind, run_getObj q1 (fun _ _ _ e => by cases e), Result.andThen_ok, run_getMap hxs, hback, hfd', bne_self_eq_false, Bool.false_eq_true, if_false, Sem.run_pure]
        · cases hx
      · cases hx
    · cases hx
  · cases hx

end Go.Eng

namespace Go.Eng
open Go
variable [Syms]

variable {P : Program} {tb : Tab} {ρ : Ren} {h : EH} {w : World} {nm : Nat} {f : Fr} {a : Act} {o : Oper} {r : OR}

omit [Syms] in
theorem shape_row {b : Nat} {c : Array Value} {e : TypeId} {fr : Nat × Nat} (h : w.heap[b]? = some (.cells c e fr)) : w.shape? b = some (e, c.size) := by
  simp [World.shape?, h]

omit [Syms] in
theorem run_viewAt_row {b : Nat} {c : Array Value} {e : TypeId} {fr : Nat × Nat} (h : w.heap[b]? = some (.cells c e fr)) : (viewAt b).run P w = .ok none w := by
  simp [viewAt, shape_row h]

omit [Syms] in
theorem run_seenAt_row {b i : Nat} {c : Array Value} {e : TypeId} {fr : Nat × Nat} (h : w.heap[b]? = some (.cells c e fr)) : (Conv.seenAt ⟨b, i, none⟩).run P w = .ok ⟨b, i, none⟩ w := by
  simp [Conv.seenAt, run_viewAt_row h]

omit [Syms] in
theorem run_cellsIn_row {b : Nat} {c : Array Value} {e : TypeId} {fr : Nat × Nat} (h : w.heap[b]? = some (.cells c e fr)) : (cellsIn b).run P w = .ok (some c.size) w := by
  simp [cellsIn, shape_row h]

/-- A row where a string's bytes lie. -/
def frozenMore (fr : Nat × Nat) (off n : Nat) : Nat × Nat := if fr.1 == fr.2 then (off, off + n) else (min fr.1 off, max fr.2 (off + n))

omit [Syms] in
theorem turned_freeze {b off n : Nat} {c : Array Value} {e : TypeId} {fr : Nat × Nat} (h : w.heap[b]? = some (.cells c e fr)) (hn : n ≠ 0) : Turned b (.cells c e (frozenMore fr off n)) w (w.freeze ⟨b, off, none⟩ n) := by
  refine ⟨?_, ?_, ?_, ?_, ?_, fun k hk => ?_⟩
  · simp [World.freeze, hn]
  · simp [World.freeze, hn]
  · simp [World.freeze, hn]
  · simp [World.freeze, hn]
  · simp only [World.freeze, if_neg hn, Array.getElem?_modify, h]
    obtain ⟨lo, hi⟩ := fr
    simp [frozenMore]
  · simp only [World.freeze, if_neg hn, Array.getElem?_modify]
    rw [if_neg (fun e => hk e.symm)]

omit [Syms] in
theorem run_markStringish {b i : Nat} {c : Array Value} {e : TypeId} {fr : Nat × Nat} (h : w.heap[b]? = some (.cells c e fr)) : (markStringish ⟨b, i, none⟩).run P w = .ok () (w.freeze ⟨b, c.size, none⟩ 1) := by
  simp [markStringish, shape_row h]

omit [Syms] in
theorem liesAt_whole {u : TypeId} {n off : Nat} {count : Nat} (hs : P.cellsOf u ≠ 0) (hr : off % P.cellsOf u = 0) (hb : off / P.cellsOf u + n ≤ count) : liesAt P P.depth u count off u n = true := by
  have hd : ∃ d, P.depth = d + 2 := ⟨2 * (P.types.size + Made.depth), rfl⟩
  obtain ⟨d, hd⟩ := hd
  have hl : sameLayout P (d + 2) u u = true := by
    unfold sameLayout
    simp
  rw [hd]
  unfold liesAt
  rw [hd]
  unfold rowAt
  simp [hs, hr, hb, hl]

omit [Syms] in
theorem cellsOf_info {t : TypeId} {i : TypeInfo} (h : P.info? t = some i) : P.cellsOf t = i.size := by simp [Program.cellsOf, h]

theorem bytesE_rel : ∀ {l : List EV} {vs : List Value} {bs : List Nat}, VRels ρ l vs → bytesE l = some bs → ∃ ks : List Int, vs = ks.map (.int .u8 ·) ∧ bs = ks.map fun k => k.toNat % 256
  | [], [], bs, _, h => by cases h; exact ⟨[], rfl, rfl⟩
  | e :: l, v :: vs, bs, .cons _ _ _ _ h1 h2, h => by
    unfold bytesE at h
    split at h
    · rename_i heq; cases heq
    · rename_i b l' heq
      cases heq
      split at h
      · rename_i bs' hbs
        cases h
        cases h1
        obtain ⟨ks, rfl, rfl⟩ := bytesE_rel h2 hbs
        exact ⟨b :: ks, rfl, rfl⟩
      · cases h
    · cases h

omit [Syms] in
theorem ofBytes_push (s : ByteArray) (b : UInt8) : ofBytes (s.push b) = ofBytes s ++ [b.toNat] := by simp [ofBytes, ByteArray.push]

omit [Syms] in
theorem push_loop (P : Program) (w : World) : ∀ (ks : List Int) (s : ByteArray), ∃ s', (forIn (ks.map (Value.int .u8 ·)) s fun c __s => (match c with
      | .int .u8 n => pure (ForInStep.yield (__s.push (UInt8.ofNat n.toNat)))
      | _ => do
        stuck "bytesToString: byte expected"
        pure (ForInStep.yield __s) : Sem (ForInStep ByteArray))).run P w = .ok s' w ∧ ofBytes s' = ofBytes s ++ ks.map fun k => k.toNat % 256
  | [], s => ⟨s, rfl, by simp⟩
  | k :: ks, s => by
    obtain ⟨s', h1, h2⟩ := push_loop P w ks (s.push (UInt8.ofNat k.toNat))
    refine ⟨s', ?_, ?_⟩
    · rw [List.map_cons, List.forIn_cons]
      simp only [Sem.run_bind, Sem.run_pure, Result.andThen_ok]
      exact h1
    · rw [h2, ofBytes_push]
      simp

def loudConv (tb : Tab) (s d : TypeId) : Bool :=
  match convKind tb s d with
  | .alloc | .effect => true
  | _ => false

omit [Syms] in
theorem capcut_le {need old : Nat} {e : TypeId} {t : Nat} (h : need ≤ 4611686018427387904) : (Question.appendCap need old e).cut t ≤ 9223372036854775807 := by
  have hlt := Nat.mod_lt t (show 0 < 2 ^ 63 - need by omega)
  simp only [Question.cut]
  omega

theorem convert_rel (ht : TabOk P tb) (hr : Rel P ρ h w) (hn : ρ nm = none) (hlt : nm < h.next) {src dst : TypeId} {x e : EV} {x' : Value} {h' : EH} (hx : VRel ρ x x') (he : convertE tb h nm src dst x = some (e, h')) :
    (h' = h ∧ ∃ v, (convert src dst x').run P w = .ok v w ∧ VRel ρ e v) ∨ (loudConv tb src dst = true ∧ ∃ ρ' v w', (convert src dst x').run P w = .ok v w' ∧ VRel ρ' e v ∧ Rel P ρ' h' w' ∧ Extd (· = nm) ρ h w ρ' h' w') := by
  unfold convertE at he
  split at he
  · rename_i s d hs hd
    have same : ∀ {v : Value}, (convert src dst x').run P w = .ok v w → VRel ρ e v → h' = h → (h' = h ∧ ∃ v, (convert src dst x').run P w = .ok v w ∧ VRel ρ e v) ∨ (loudConv tb src dst = true ∧ ∃ ρ' v w', (convert src dst x').run P w = .ok v w' ∧ VRel ρ' e v ∧ Rel P ρ' h' w' ∧ Extd (· = nm) ρ h w ρ' h' w') := by
      intro v h1 h2 h3
      exact .inl ⟨h3, v, h1, h2⟩
    have hconv : (convert src dst x').run P w = ((do match s, d, x' with
      | _, .int k, .int _ n => Conv.intToInt k n
      | _, .float k, .int _ n => Conv.intToFloat k n
      | _, .int k, .float s b => Conv.floatToInt s b k
      | _, .float k, .float s b => Conv.floatToFloat s b k
      | _, .complex k, .complex s a b => Conv.complexToComplex s a b k
      | _, .string, .int _ n => Conv.intToString n
      | _, .string, .string _ => pure x'
      | _, .slice e, .string s =>
        match ← underlying e with
        | .int .u8 => Conv.stringToBytes e s
        | .int .i32 => Conv.stringToRunes e s
        | _ => stuck "Convert: string to a slice of what?"
      | .slice _, .slice e, .slice (some a) _ _ =>
        match src == dst, ← underlying e with
        | true, .int .u8 => do markStringish a; pure x'
        | _, _ => unsupported (.noEntry "convert/other")
      | .slice e, .string, x =>
        match ← underlying e with
        | .int .u8 => Conv.bytesToString x
        | .int .i32 => Conv.runesToString x
        | _ => stuck "Convert: a slice of what to string?"
      | .unsafePointer, _, x | _, .unsafePointer, x => Conv.unsafePointer src dst x
      | .int _, _, .pointer (some _) => unsupported .addressObserved
      | _, _, _ => unsupported (.noEntry "convert/other")) : Sem Value).run P w := by
      unfold convert
      simp only [Sem.run_bind, ht.run_und hs, ht.run_und hd, Result.andThen_ok]
      rfl
    split at he
    · -- numbers
      rename_i k n
      cases he; cases hx
      refine same (v := .int _ _) ?_ (.int _ _) rfl
      rw [hconv]
      cases s <;> rfl
    · cases he; cases hx with | str s' _ hs' => ?_
      refine same (v := .string s') ?_ (.str _ _ hs') rfl
      rw [hconv]
      cases s <;> rfl
    · cases he; cases hx
      refine same (v := .pointer none) ?_ .nilPtr rfl
      rw [hconv]
      show (Conv.unsafePointer src dst _).run P w = _
      unfold Conv.unsafePointer
      simp only [Sem.run_bind, ht.run_und hs, ht.run_und hd, Result.andThen_ok]; rfl
    · rename_i t n off
      split at he
      · rename_i k v hk hc
        split at he
        · cases he
        · rename_i hk0
          cases he
          cases hx with | ptr _ _ L hL => ?_
          obtain ⟨t0, e0, vr, hg, ht0⟩ := EH.cell_row hc
          obtain ⟨c, fr, hrow⟩ := hr.row hg hL
          obtain ⟨v1, hv1, _⟩ := hrow.cell _ _ ht0
          have hlt2 := (Array.getElem?_eq_some_iff.1 hv1).1
          refine same (v := .pointer (some ⟨L.b, L.sh + off, none⟩)) ?_ (.ptr _ _ L hL) rfl
          rw [hconv]
          show (Conv.unsafePointer src dst _).run P w = _
          unfold Conv.unsafePointer
          simp only [Sem.run_bind, ht.run_und hs, ht.run_und hd, Result.andThen_ok, run_seenAt_row hrow.heap, run_cellsIn_row hrow.heap, ht.run_size hk]
          have : ¬ L.sh + off ≥ c.size := by omega
          simp [this, hk0]
      · cases he
    · cases he; cases hx
      refine same (v := .pointer none) ?_ .nilPtr rfl
      rw [hconv]
      show (Conv.unsafePointer src dst _).run P w = _
      unfold Conv.unsafePointer
      simp only [Sem.run_bind, ht.run_und hs, ht.run_und hd, Result.andThen_ok]; rfl
    · rename_i u n
      split at he
      · rename_i c0 e0 k hg hk
        split at he
        · rename_i hb
          obtain ⟨rfl, hk0⟩ := hb
          cases he
          cases hx with | ptr _ _ L hL => ?_
          obtain ⟨c, fr, q1, q2, q3, q4, q5⟩ := hr.live n _ L hg hL
          obtain ⟨hsh, i, hi, his⟩ := q3 rfl
          obtain ⟨i', hi', hik⟩ := size_info hk
          have := ht.inf _ _ hi'
          rw [hi] at this
          cases this
          refine same (v := .pointer (some ⟨L.b, L.sh + 0, none⟩)) ?_ (.ptr _ _ L hL) rfl
          rw [hconv]
          show (Conv.unsafePointer src dst _).run P w = _
          unfold Conv.unsafePointer
          have hva : (variablesAt ⟨L.b, L.sh + 0, none⟩ e0 1).run P w = .ok true w := by
            unfold variablesAt
            simp only [Sem.run_bind, run_program, Result.andThen_ok, run_shape, shape_row q1, Sem.run_pure]
            have e1 := cellsOf_info hi
            rw [liesAt_whole]
            · rw [e1]; omega
            · rw [hsh]; simp
            · rw [hsh, e1, his]
              have : 0 < c.size := by omega
              simp [Nat.div_self this]
          simp only [Sem.run_bind, ht.run_und hs, ht.run_und hd, Result.andThen_ok, run_seenAt_row q1, ht.run_size hk, hva]
          simp [hk0]
        · cases he
      · cases he
    · rename_i el n off len cap es
      split at he
      · rename_i hsd
        split at he
        · rename_i hel
          split at he
          all_goals first | (cases he; done) | skip
          rename_i t0 e0 vr hg
          split at he
          all_goals first | (cases he; done) | skip
          rename_i he0
          cases he
          cases hx with | slice _ _ _ _ _ L o' c0 hL hlc hcc hoo => ?_
          subst hsd
          obtain ⟨c, fr, q1, q2, q3, q4, q5⟩ := hr.live n _ L hg hL
          have hfm : (frozenMore fr c.size 1).1 = (frozenMore fr c.size 1).2 ∨ (c.size ≤ (frozenMore fr c.size 1).1 ∧ P.underlying e0 = some (.int .u8)) := by
            refine .inr ⟨?_, ht.und _ _ he0⟩
            unfold frozenMore
            split
            · exact Nat.le_refl _
            · rename_i hne
              rcases q4 with q4 | ⟨q4, _⟩
              · simp [q4] at hne
              · simp only; omega
          obtain ⟨r1, r2⟩ := hr.turn (o' := .cells t0 e0 vr) (· = nm) hg hL (turned_freeze (off := c.size) (n := 1) q1 (by omega)) ⟨c, _, rfl, q2, q3, hfm, q5⟩
          refine .inr ⟨by simp only [loudConv, convKind, hs], ρ, .slice (some ⟨L.b, o', none⟩) len c0, _, ?_, .slice _ _ _ _ _ L o' c0 hL hlc hcc hoo, r1, r2⟩
          rw [hconv]
          show (do
            match src == src, ← underlying el with
            | true, .int .u8 => do markStringish ⟨L.b, o', none⟩; pure _
            | _, _ => unsupported (.noEntry "convert/other") : Sem Value).run P w = _
          simp only [beq_self_eq_true, Sem.run_bind, ht.run_und hel, Result.andThen_ok, run_markStringish q1, Sem.run_pure]
        · cases he
      · cases he
    · rename_i el s'
      split at he
      · rename_i hel
        have hbb : Nat.ble s'.length 1099511627776 = true := by
          cases hb : Nat.ble s'.length 1099511627776 with
          | false => rw [hb] at he; cases he
          | true => rfl
        rw [hbb] at he
        have hbnd := Nat.le_of_ble_eq_true hbb
        cases he
        cases hx with | str s0 _ hs0 => ?_
        subst hs0
        have hrun : ∃ cap w1, (s0.size ≤ cap ∧ cap ≤ 9223372036854775807) ∧ (choose (.appendCap s0.size 0 el)).run P w = .ok cap w1 ∧ w1.heap = w.heap ∧ w1.os = w.os ∧ w1.tape = w.tape ∧ w1.output = w.output :=
          ⟨_, { w with drawn := w.drawn + 1 }, ⟨Nat.le_add_right _ _, capcut_le (old := 0) (e := el) (by rw [ofBytes_length] at hbnd; omega)⟩, by simp [choose, Sem.run, Question.forced]; rfl, rfl, rfl, rfl, rfl⟩
        obtain ⟨cap, w1, hcap, hch, g1, g2, g3, g4⟩ := hrun
        let row : Array Value := (s0.data.map fun b => .int .u8 b.toNat) ++ Array.replicate (cap - s0.size) (.int .u8 0)
        have hrs : row.size = cap := by
          have : s0.data.size = s0.size := rfl
          simp only [row, Array.size_append, Array.size_map, Array.size_replicate]
          omega
        let w2 : World := ({ w1 with heap := w1.heap.push (.cells row el) } : World).freeze ⟨w.heap.size, row.size, none⟩ 1
        have hw1 : ({ w1 with heap := w1.heap.push (.cells row el) } : World).heap[w.heap.size]? = some (.cells row el) := by
          simp only [g1]; simp
        have ht2 := turned_freeze (off := row.size) (n := 1) hw1 (by omega)
        have hheap : w2.heap = w.heap.push (.cells row el (row.size, row.size + 1)) := by
          apply Array.ext_getElem?
          intro k
          by_cases hk : k = w.heap.size
          · subst hk
            rw [ht2.at_]
            simp [frozenMore]
          · rw [ht2.other k hk]
            simp only [g1, Array.getElem?_push, if_neg hk]
        have hcells : VRels ρ ((ofBytes s0).map fun b => EV.int .u8 (Int.ofNat b)) (s0.data.map fun b => (.int .u8 b.toNat : Value)).toList := by
          simp only [ofBytes, Array.toList_map, List.map_map]
          generalize s0.data.toList = l
          induction l with
          | nil => exact .nil
          | cons b l ih => exact .cons _ _ _ _ (.int _ _) ih
        have hcl : ∀ k ev, (rowOf ((ofBytes s0).map fun b => EV.int .u8 (Int.ofNat b))).get k = some ev → ∃ v, row[0 + k]? = some v ∧ VRel (ρ.put nm ⟨w.heap.size, 0, row.size⟩) ev v ∧ v.oneCell' = true := by
          intro k ev hk
          have h0 := rowOf_get hk
          obtain ⟨v, h2, h3⟩ := hcells.getA h0
          have hkl : k < (s0.data.map fun b => (.int .u8 b.toNat : Value)).size := (Array.getElem?_eq_some_iff.1 h2).1
          have hone : ev.one = true := by
            rw [List.getElem?_map] at h0
            obtain ⟨b, _, rfl⟩ := Option.map_eq_some_iff.1 h0
            rfl
          refine ⟨v, ?_, h3.mono (Ren.le_put hn), h3.one hone⟩
          rw [Nat.zero_add, Array.getElem?_append_left hkl]; exact h2
        obtain ⟨r1, r2⟩ := hr.new (w' := w2) (o := .cells (rowOf ((ofBytes s0).map fun b => EV.int .u8 (Int.ofNat b))) el false) (x := .cells row el (row.size, row.size + 1)) (sz := row.size) hn hlt hheap (ht2.os.trans g2) (ht2.tape.trans g3) (ht2.output.trans g4)
          ⟨row, _, rfl, rfl, (fun h => by cases h), .inr ⟨Nat.le_refl _, ht.und _ _ hel⟩, hcl⟩
        refine .inr ⟨by simp only [loudConv, convKind, hs, hd], _, .slice (some ⟨w.heap.size, 0, none⟩) s0.size cap, w2, ?_, ?_, r1, r2⟩
        · rw [hconv]
          have hgo : (Conv.stringToBytes el s0).run P w = .ok (.slice (some ⟨w.heap.size, 0, none⟩) s0.size cap) w2 := by
            unfold Conv.stringToBytes
            simp only [Sem.run_bind, hch, Result.andThen_ok, newRow, run_newObj, Sem.run_pure]
            rw [show w1.heap.size = w.heap.size by rw [g1]]
            rw [run_markStringish hw1]
            rfl
          have : (do
            match ← underlying el with
            | .int .u8 => Conv.stringToBytes el s0
            | .int .i32 => Conv.stringToRunes el s0
            | _ => stuck "Convert: string to a slice of what?" : Sem Value).run P w = .ok (.slice (some ⟨w.heap.size, 0, none⟩) s0.size cap) w2 := by
            simp only [Sem.run_bind, ht.run_und hel, Result.andThen_ok, hgo]
          exact this
        · rw [ofBytes_length]
          refine .slice _ _ _ _ _ _ _ _ (Ren.put_same _ _ _) hcap.1 (.wide hcap.2) (.inr ⟨rfl, ?_⟩)
          simp only [hrs]; omega
      · cases he
    · rename_i el x0
      split at he
      · rename_i hel
        split at he
        · cases he; cases hx
          refine same (v := .string .empty) ?_ (.str _ _ rfl) rfl
          rw [hconv]
          show (do
            match ← underlying el with
            | .int .u8 => Conv.bytesToString _
            | .int .i32 => Conv.runesToString _
            | _ => stuck "Convert: a slice of what to string?" : Sem Value).run P w = _
          simp only [Sem.run_bind, ht.run_und hel, Result.andThen_ok]
          rfl
        · rename_i n off len cap es
          have hrd : ∃ bs, e = .str bs ∧ h' = h ∧ ((len = 0 ∧ bs = []) ∨ ∃ l, h.read n off len = some l ∧ bytesE l = some bs) := by
            split at he
            · rename_i h0; cases he; exact ⟨[], rfl, rfl, .inl ⟨h0, rfl⟩⟩
            · split at he
              · rename_i l hl
                split at he
                · rename_i bs hbs; cases he; exact ⟨bs, rfl, rfl, .inr ⟨l, hl, hbs⟩⟩
                · cases he
              · cases he
          obtain ⟨bs, rfl, rfl, hq⟩ := hrd
          cases hx with | slice _ _ _ _ _ L o' c0 hL hlc hcc hoo => ?_
          have hload : ∃ ks : List Int, (loadCells ⟨L.b, o', none⟩ len).run P w = .ok (ks.map (.int .u8 ·)).toArray w ∧ bs = ks.map fun k => k.toNat % 256 := by
            rcases hq with ⟨rfl, rfl⟩ | ⟨l, hl, hbs⟩
            · exact ⟨[], rfl, rfl⟩
            · rcases Nat.eq_zero_or_pos len with rfl | hpos
              · have : l = [] := by
                  obtain ⟨t0, e0, vr, hg, hx'⟩ := EH.read_row hl
                  cases hx'; rfl
                subst this
                cases hbs
                exact ⟨[], rfl, rfl⟩
              · have ho' : o' = L.sh + off := by
                  rcases hoo with h0 | ⟨h0, _⟩
                  · omega
                  · exact h0
                subst ho'
                obtain ⟨t0, e0, vr, hg, hx'⟩ := EH.read_row hl
                obtain ⟨c, fr, hrow⟩ := hr.row hg hL
                obtain ⟨vs, h1, h2⟩ := run_loadCells_rel hrow hx'
                obtain ⟨ks, h3, h4⟩ := bytesE_rel h2 hbs
                refine ⟨ks, ?_, h4⟩
                rw [h1, ← h3]
          obtain ⟨ks, hk1, hk2⟩ := hload
          obtain ⟨s', hp1, hp2⟩ := push_loop P w ks .empty
          refine same (v := .string s') ?_ (.str _ _ ?_) rfl
          · rw [hconv]
            show (do
              match ← underlying el with
              | .int .u8 => Conv.bytesToString _
              | .int .i32 => Conv.runesToString _
              | _ => stuck "Convert: a slice of what to string?" : Sem Value).run P w = _
            simp only [Sem.run_bind, ht.run_und hel, Result.andThen_ok, Conv.bytesToString, hk1]
            rw [← Array.forIn_toList]
            rw [show (ks.map (Value.int .u8 ·)).toArray.toList = ks.map (Value.int .u8 ·) by simp]
            exact (congrArg (Result.andThen · _) hp1).trans rfl
          · rw [hp2, hk2]; rfl
        · cases he
      · cases he
    · cases he
  · cases he

end Go.Eng

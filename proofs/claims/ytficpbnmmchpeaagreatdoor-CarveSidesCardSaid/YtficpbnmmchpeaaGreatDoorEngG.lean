/- A part of the proof of CarveSides: a verified interpreter of the model's own code, its soundness, and contracts of the library's functions. Conditions: none. -/
import Derived.Test.YtficpbnmmchpeaaGreatDoorEngF
namespace Go.Eng
open Go
variable [Syms]

variable {P : Program} {tb : Tab} {ρ : Ren} {h : EH} {w : World} {nm : Nat} {f : Fr} {a : Act} {o : Oper} {r : OR}

/-! ### The trie, told whole -/

omit [Syms] in
theorem T.get_set_eq {α : Type} (fu : Nat) : ∀ (t : T α) (n m : Nat) (a : α), n + 1 < 2 ^ fu → (T.set fu t n a).get m = if m = n then some a else t.get m := by
  induction fu with
  | zero => intro t n m a h; simp at h
  | succ fu ih =>
    intro t n m a h
    have hp : 2 ^ (fu + 1) = 2 * 2 ^ fu := by rw [Nat.pow_succ]; omega
    cases t with
    | leaf =>
      rcases beq0 n with ⟨hn, e⟩ | ⟨hn, e⟩
      · subst e
        simp only [T.set, hn, cond_true, T.get_node]
        by_cases hm : m = 0
        · simp [hm]
        · simp [hm, T.get]
      · rcases beqm n with ⟨hq, e2⟩ | ⟨hq, e2⟩
        · simp only [T.set, hn, hq, cond_true, cond_false, T.get_node, div2]
          by_cases hm : m = 0
          · have : ¬ m = n := by omega
            simp only [hm, if_true]
            rw [if_neg (by omega)]; rfl
          · by_cases hm2 : m % 2 = 1
            · simp only [hm, hm2, if_true, if_false]
              rw [ih _ _ _ _ (by omega)]
              by_cases hmn : m = n
              · subst hmn; simp
              · rw [if_neg (by omega), if_neg hmn]; rfl
            · simp only [hm, hm2, if_false]
              rw [if_neg (fun e => hm2 (by rw [e]; exact e2))]; rfl
        · simp only [T.set, hn, hq, cond_false, T.get_node, div2, sub1]
          by_cases hm : m = 0
          · simp only [hm, if_true]
            rw [if_neg (by omega)]; rfl
          · by_cases hm2 : m % 2 = 1
            · simp only [hm, hm2, if_true, if_false]
              rw [if_neg (fun e => e2 (by rw [← e]; exact hm2))]; rfl
            · simp only [hm, hm2, if_false]
              rw [ih _ _ _ _ (by omega)]
              by_cases hmn : m = n
              · subst hmn; simp
              · rw [if_neg (by omega), if_neg hmn]; rfl
    | node l v r =>
      rw [T.get_node]
      rcases beq0 n with ⟨hn, e⟩ | ⟨hn, e⟩
      · subst e
        simp only [T.set, hn, cond_true, T.get_node]
        by_cases hm : m = 0
        · simp [hm]
        · simp [hm]
      · rcases beqm n with ⟨hq, e2⟩ | ⟨hq, e2⟩
        · simp only [T.set, hn, hq, cond_true, cond_false, T.get_node, div2]
          by_cases hm : m = 0
          · simp only [hm, if_true]
            rw [if_neg (by omega)]
          · by_cases hm2 : m % 2 = 1
            · simp only [hm, hm2, if_true, if_false]
              rw [ih _ _ _ _ (by omega)]
              by_cases hmn : m = n
              · subst hmn; simp
              · rw [if_neg (by omega), if_neg hmn]
            · simp only [hm, hm2, if_false]
              rw [if_neg (fun e => hm2 (by rw [e]; exact e2))]
        · simp only [T.set, hn, hq, cond_false, T.get_node, div2, sub1]
          by_cases hm : m = 0
          · simp only [hm, if_true]
            rw [if_neg (by omega)]
          · by_cases hm2 : m % 2 = 1
            · simp only [hm, hm2, if_true, if_false]
              rw [if_neg (fun e => e2 (by rw [← e]; exact hm2))]
            · simp only [hm, hm2, if_false]
              rw [ih _ _ _ _ (by omega)]
              by_cases hmn : m = n
              · subst hmn; simp
              · rw [if_neg (by omega), if_neg hmn]

/-- A trie's entries, those of p alone. -/
def T.keep {α : Type} : (Nat → Bool) → T α → T α
  | _, .leaf => .leaf
  | p, .node l v r => .node (T.keep (fun n => p (2 * n + 1)) l) (if p 0 then v else none) (T.keep (fun n => p (2 * n + 2)) r)

omit [Syms] in
theorem T.get_keep {α : Type} : ∀ (t : T α) (p : Nat → Bool) (n : Nat), (t.keep p).get n = if p n then t.get n else none
  | .leaf, p, n => by simp [T.keep, T.get]
  | .node l v r, p, n => by
    simp only [T.keep, T.get_node]
    by_cases h0 : n = 0
    · subst h0; simp
    · by_cases h1 : n % 2 = 1
      · simp only [h0, h1, if_true, if_false]
        rw [T.get_keep l]
        rw [show 2 * (n / 2) + 1 = n by omega]
      · simp only [h0, h1, if_false]
        rw [T.get_keep r]
        rw [show 2 * ((n - 1) / 2) + 2 = n by omega]

def Fr.keep (f : Fr) (p : Nat → Bool) : Fr := ⟨f.n, f.t.keep p⟩
omit [Syms] in
theorem Fr.get_keep (f : Fr) (p : Nat → Bool) (t : Nat) : (f.keep p).get t = if p t then f.get t else none := T.get_keep _ _ _

/-! ### What an operation looks at -/

omit [Syms] in
theorem ev_congr {f2 : Fr} {x : Operand} (h : ∀ t, x = .tmp t → f.get t = f2.get t) : ev f x = ev f2 x := by
  cases x with
  | tmp t => exact h t rfl
  | _ => rfl

omit [Syms] in
theorem evs_congr {f2 : Fr} : ∀ {l : List Operand}, (∀ x ∈ l, ev f x = ev f2 x) → evs f l = evs f2 l
  | [], _ => rfl
  | x :: l, h => by
    simp only [evs, h x (by simp), evs_congr (l := l) (fun y hy => h y (by simp [hy]))]

omit [Syms] in
theorem partsE_congr {f2 : Fr} : ∀ {l : List (Nat × Operand)}, (∀ x ∈ l.map (·.2), ev f x = ev f2 x) → partsE f l = partsE f2 l
  | [], _ => rfl
  | (i, x) :: l, h => by
    simp only [partsE, h x (by simp), partsE_congr (l := l) (fun y hy => h y (by simp only [List.map_cons, List.mem_cons]; exact .inr hy))]

omit [Syms] in
theorem mem_oprTmps {l : List Operand} {t : Tmp} (h : Operand.tmp t ∈ l) : t ∈ oprTmps l := by
  induction l with
  | nil => cases h
  | cons x l ih =>
    cases h with
    | head => simp [oprTmps]
    | tail _ h =>
      have := ih h
      cases x <;> simp [oprTmps, this]

omit [Syms] in
theorem opE_congr {f2 : Fr} (h0 : ∀ t ∈ oprTmps o.op.operands.toList, f.get t = f2.get t) : opE tb h nm f o = opE tb h nm f2 o := by
  have hev : ∀ x ∈ o.op.operands.toList, ev f x = ev f2 x := fun x hx => ev_congr fun t e => h0 t (mem_oprTmps (e ▸ hx))
  clear h0
  unfold opE
  generalize o.op = op at hev
  cases op <;> simp only [Op.operands, Call.operands] at hev <;> first
    | rfl
    | (dsimp only; simp (disch := simp) only [hev]; done)
    | skip
  case build t ps => dsimp only; rw [partsE_congr (f2 := f2) (by simpa using hev)]
  case buildSlice t n ps => dsimp only; rw [partsE_congr (f2 := f2) (by simpa using hev)]
  case makeFunc fn fi ca =>
    dsimp only
    rw [evs_congr (f2 := f2) (l := fi.toList) (fun x hx => hev x (by simp only [Array.toList_append, List.mem_append]; exact .inl hx)), evs_congr (f2 := f2) (l := ca.toList) (fun x hx => hev x (by simp only [Array.toList_append, List.mem_append]; exact .inr hx))]
  case slice t x lo hi mx =>
    have evo_congr : ∀ (y : Option Operand), (∀ z, y = some z → ev f z = ev f2 z) → evo f y = evo f2 y := by
      intro y hy
      cases y with
      | none => rfl
      | some z => simp only [evo, hy z rfl]
    dsimp only
    rw [hev x (by simp), evo_congr lo (fun z e => hev z (by subst e; simp)), evo_congr hi (fun z e => hev z (by subst e; simp)), evo_congr mx (fun z e => hev z (by subst e; simp))]
  case makeMap t r => cases r <;> rfl
  case call c =>
    have hargs : evs f c.args.toList = evs f2 c.args.toList := evs_congr fun x hx => hev x (by simp only [Array.toList_append, List.mem_append]; exact .inr hx)
    simp only [callE1, hargs]
    cases hc : c.callee with
    | builtin b => rfl
    | value g => dsimp only; rw [hev g (by simp [hc])]
    | invoke g n => dsimp only; rw [hev g (by simp [hc])]

omit [Syms] in
theorem wantedE_congr {f2 : Fr} {ops : Array Oper} (h0 : ∀ t ∈ opTmps ops o, f.get t = f2.get t) : wantedE ops f o = wantedE ops f2 o := by
  unfold wantedE
  cases hg : o.guard with
  | none => rfl
  | some g =>
    obtain ⟨j, want⟩ := g
    cases hj : ops[j]? with
    | none => simp only [hj]
    | some p =>
      cases hd : p.dst with
      | none => simp only [hj, hd]
      | some d =>
        have : f.get d = f2.get d := h0 d (by simp [opTmps, hg, hj, hd])
        simp only [hj, hd, this]

/-! ### Kinds -/

omit [Syms] in
theorem kind_pure (hk : kindOf tb o.op = .pure) (hx : opE tb h nm f o = some r) : ∃ v, r = .val v h ∧ ∀ h2 nm2, opE tb h2 nm2 f o = some (.val v h2) := by
  revert hk hx
  unfold opE
  generalize o.op = op
  intro hk hx
  cases op <;> simp only [kindOf] at hk <;> first
    | (cases hk; done)
    | (dsimp only at hx ⊢; obtain ⟨e, h1, rfl⟩ := map_some hx; exact ⟨e, rfl, fun h2 nm2 => by rw [h1]; rfl⟩)
    | skip
  case slice t x lo hi mx =>
    dsimp only at hx ⊢
    split at hx
    · rename_i x0 lo0 hi0 mx0 e1 e2 e3 e4
      obtain ⟨e, h1, rfl⟩ := map_some hx
      refine ⟨e, rfl, fun h2 nm2 => ?_⟩
      have h3 : sliceE tb h2 t x0 lo0 hi0 mx0 = some e := by
        rw [← h1]
        unfold sliceE
        split
        all_goals first | rfl | skip
        rename_i k el hd
        rw [hd] at hk
        cases hk
      simp only [h3, Option.map_some]
    · cases hx
  case binOp bop t x y yt =>
    dsimp only at hx ⊢
    split at hx
    · rename_i a0 b0 e1 e2
      cases hg : guardE x y a0 b0 with
      | false => rw [hg] at hx; cases hx
      | true =>
        rw [hg] at hx
        simp only [cond_true] at hx
        obtain ⟨e, h1, rfl⟩ := map_some hx
        exact ⟨e, rfl, fun h2 nm2 => by simp only [cond_true, h1, Option.map_some]⟩
    · cases hx
  case convert s d x =>
    dsimp only at hx ⊢
    split at hx
    · rename_i a0 e1
      split at hx
      · rename_i v h' h1
        cases hx
        have key : h' = h ∧ ∀ h2 nm2, convertE tb h2 nm2 s d a0 = some (v, h2) := by
          unfold convertE at h1 ⊢
          unfold convKind at hk
          split at h1
          · rename_i sd dd hs hd
            rw [hs, hd] at hk
            split at h1
            all_goals first
              | (cases h1; done)
              | (cases h1; exact ⟨rfl, fun h2 nm2 => rfl⟩)
              | (cases hk; done)
          · cases h1
        obtain ⟨rfl, h2⟩ := key
        exact ⟨v, rfl, fun h2' nm2 => by simp only [h2]⟩
      · cases hx
    · cases hx
  all_goals
    dsimp only at hx ⊢
    repeat' split at hx
  all_goals first
    | (cases hx; done)
    | (cases hx; refine ⟨_, rfl, fun h2 nm2 => ?_⟩; simp only [*]; done)
    | (obtain ⟨e, h1, rfl⟩ := map_some hx; refine ⟨e, rfl, fun h2 nm2 => ?_⟩; simp only [*]; first | done | rfl)
    | (obtain ⟨e, h1, rfl⟩ := map_some hx; refine ⟨e, rfl, fun h2 nm2 => ?_⟩; simp only [*, Option.map_some]; done)
    | (cases hx; refine ⟨_, rfl, fun h2 nm2 => ?_⟩; simp only [*, and_self, if_true, if_false]; done)
    | (obtain ⟨e, h1, rfl⟩ := map_some hx; refine ⟨e, rfl, fun h2 nm2 => ?_⟩; simp only [*, and_self, if_true, if_false, Option.map_some]; done)
    | (obtain ⟨e, h1, rfl⟩ := map_some hx; refine ⟨_, rfl, fun h2 nm2 => ?_⟩; simp only [*, if_true, if_false, Option.map_some]; done)
    | (split at hk <;> cases hk)

omit [Syms] in
theorem builtin_reader {b : Builtin} {ts : List TypeId} {args : List EV} (hb : b = .len ∨ b = .cap ∨ b = .min ∨ b = .max ∨ b = .unsafeSliceData) (hx : builtinE tb h nm b ts args = some r) :
    ∃ v, r = .val v h ∧ ∀ nm2, builtinE tb h nm2 b ts args = some (.val v h) := by
  rcases hb with rfl | rfl | rfl | rfl | rfl
  · cases ts with
    | nil => cases hx
    | cons t tr => cases args with
      | nil => cases hx
      | cons x xs => obtain ⟨e, h1, rfl⟩ := map_some (show (lenE tb h t x).map (.val · h) = some r from hx); exact ⟨e, rfl, fun _ => hx⟩
  · cases ts with
    | nil => cases hx
    | cons t tr => cases args with
      | nil => cases hx
      | cons x xs =>
        have hx' := hx
        simp only [builtinE] at hx
        split at hx
        · cases hx; exact ⟨_, rfl, fun _ => hx'⟩
        · cases hx; exact ⟨_, rfl, fun _ => hx'⟩
        · cases hx
  · obtain ⟨e, h1, rfl⟩ := map_some (show (minE args).map (.val · h) = some r from hx); exact ⟨e, rfl, fun _ => hx⟩
  · obtain ⟨e, h1, rfl⟩ := map_some (show (maxE args).map (.val · h) = some r from hx); exact ⟨e, rfl, fun _ => hx⟩
  · have hx' := hx
    unfold builtinE at hx
    split at hx <;> rename_i hh <;> first
      | (cases hh; done)
      | skip
    all_goals first
      | (cases hx; exact ⟨_, rfl, fun _ => hx'⟩)
      | (split at hx
         · cases hx
         · cases hx; exact ⟨_, rfl, fun _ => hx'⟩)
      | (cases hx; done)

omit [Syms] in
theorem kind_reader (hk : kindOf tb o.op = .reader) (hx : opE tb h nm f o = some r) : ∃ v, r = .val v h ∧ ∀ nm2, opE tb h nm2 f o = some (.val v h) := by
  revert hk hx
  unfold opE
  generalize o.op = op
  intro hk hx
  cases op <;> simp only [kindOf] at hk <;> first
    | (cases hk; done)
    | (dsimp only at hx ⊢; split at hx <;> first
        | (cases hx; done)
        | (obtain ⟨e, h1, rfl⟩ := map_some hx; refine ⟨e, rfl, fun nm2 => ?_⟩; simp only [*, Option.map_some]; done))
    | skip
  case convert s d x =>
    dsimp only at hx ⊢
    split at hx
    · rename_i a0 e1
      split at hx
      · rename_i v h' h1
        cases hx
        have key : h' = h ∧ ∀ nm2, convertE tb h nm2 s d a0 = some (v, h) := by
          have hsd : ∃ el, tb.und s = some (.slice el) ∧ tb.und d = some .string := by
            unfold convKind at hk
            split at hk
            all_goals first
              | (cases hk; done)
              | exact ⟨_, by assumption, by assumption⟩
          obtain ⟨el, hs, hd⟩ := hsd
          have h2 : ∀ nm2, convertE tb h nm2 s d a0 = convertE tb h nm s d a0 := by
            intro nm2
            unfold convertE
            rw [hs, hd]
            cases a0 <;> rfl
          have h3 : h' = h := by
            unfold convertE at h1
            rw [hs, hd] at h1
            cases a0 <;> dsimp only at h1 <;> repeat' split at h1
            all_goals first
              | (cases h1; done)
              | (cases h1; rfl)
          subst h3
          exact ⟨rfl, fun nm2 => (h2 nm2).trans h1⟩
        obtain ⟨rfl, h2⟩ := key
        exact ⟨v, rfl, fun nm2 => by simp only [h2]⟩
      · cases hx
    · cases hx
  case call c =>
    have hb : ∃ b, c.callee = .builtin b ∧ (b = .len ∨ b = .cap ∨ b = .min ∨ b = .max ∨ b = .unsafeSliceData) := by
      split at hk
      all_goals first
        | (cases hk; done)
        | exact ⟨_, by assumption, by simp⟩
    obtain ⟨b, hc, hb⟩ := hb
    simp only [callE1, hc] at hx ⊢
    split at hx
    · rename_i args ha
      skip
      exact builtin_reader hb hx
    · cases hx

omit [Syms] in
/-- What an operation that makes memory makes. -/
theorem kind_alloc (hk : kindOf tb o.op = .alloc) (hx : opE tb h nm f o = some r) : ∃ v obj, r = .val v (h.set nm obj) ∧ (∀ h2, opE tb h2 nm f o = some (.val v (h2.set nm obj))) ∧ (v = .ptr nm 0 ∨ v = .map nm ∨ ∃ len cap es, v = .slice nm 0 len cap es) := by
  revert hk hx
  unfold opE
  generalize o.op = op
  intro hk hx
  cases op <;> simp only [kindOf] at hk <;> first
    | (cases hk; done)
    | skip
  case alloc e =>
    dsimp only at hx ⊢
    split at hx
    · rename_i z hz
      cases hc : (z.cells.all EV.one && decide (tb.size e = some z.cells.length)) with
      | false => rw [hc] at hx; cases hx
      | true => rw [hc] at hx; cases hx; exact ⟨_, _, rfl, fun h2 => by simp only [cond_true], .inl rfl⟩
    · cases hx
  case box e x =>
    dsimp only at hx ⊢
    split at hx
    · rename_i z hz
      cases hc : (z.cells.all EV.one && decide (tb.size e = some z.cells.length)) with
      | false => rw [hc] at hx; cases hx
      | true => rw [hc] at hx; cases hx; exact ⟨_, _, rfl, fun h2 => by simp only [cond_true], .inl rfl⟩
    · cases hx
  case buildSlice t n ps =>
    dsimp only at hx ⊢
    repeat' split at hx
    all_goals first
      | (cases hx; done)
      | (cases hx; refine ⟨_, _, rfl, fun h2 => ?_, .inr (.inr ⟨_, _, _, rfl⟩)⟩; simp only [*, and_self, if_true]; done)
  case makeMap t rs =>
    cases rs with
    | none => cases hx; exact ⟨_, _, rfl, fun h2 => rfl, .inr (.inl rfl)⟩
    | some x => cases hx
  case makeSlice t l c =>
    dsimp only at hx ⊢
    repeat' split at hx
    all_goals first
      | (cases hx; done)
      | (cases hx; refine ⟨_, _, rfl, fun h2 => ?_, .inr (.inr ⟨_, _, _, rfl⟩)⟩; simp only [*, and_self, if_true]; done)
  case convert s d x =>
    dsimp only at hx ⊢
    split at hx
    · rename_i a0 e1
      split at hx
      · rename_i v h' h1
        cases hx
        have hsd : ∃ el, tb.und s = some .string ∧ tb.und d = some (.slice el) := by
          unfold convKind at hk
          split at hk
          all_goals first
            | (cases hk; done)
            | exact ⟨_, by assumption, by assumption⟩
        obtain ⟨el, hs, hd⟩ := hsd
        have key : ∃ obj, h' = h.set nm obj ∧ (∀ h2, convertE tb h2 nm s d a0 = some (v, h2.set nm obj)) ∧ ∃ len cap es, v = .slice nm 0 len cap es := by
          unfold convertE at h1 ⊢
          rw [hs, hd] at h1 ⊢
          cases a0 with
          | str ss =>
            dsimp only at h1 ⊢
            split at h1
            · rename_i he
              cases hb : Nat.ble ss.length 1099511627776 with
              | false => rw [hb] at h1; cases h1
              | true =>
                rw [hb] at h1
                cases h1
                exact ⟨_, rfl, fun h2 => by simp only [cond], _, _, _, rfl⟩
            · cases h1
          | _ => dsimp only at h1; cases h1
        obtain ⟨obj, rfl, h2, h3⟩ := key
        exact ⟨v, obj, rfl, fun h2' => by simp only [h2], .inr (.inr h3)⟩
      · cases hx
    · cases hx
  case slice t x lo hi mx => split at hk <;> cases hk
  case call c => split at hk <;> cases hk

end Go.Eng

namespace Go.Eng
open Go
variable [Syms]

variable {P : Program} {tb : Tab} {ρ : Ren} {h : EH} {w : World} {nm : Nat} {f : Fr} {a : Act} {o : Oper} {r : OR}

/-! ### Operations that leave the world as it is -/

theorem builtin_quiet (ht : TabOk P tb) (hr : Rel P ρ h w) {b : Builtin} {ts : Array TypeId} {ty : TypeId} {cs : Array Bool} {args : List EV} {args' : Array Value} {e : EV} (ha : VRels ρ args args'.toList)
    (hb : b = .len ∨ b = .cap ∨ b = .min ∨ b = .max ∨ b = .unsafeSliceData) (he : builtinE tb h nm b ts.toList args = some (.val e h)) :
    ∃ v, (builtin b ts ty cs args').run P w = .ok (.value v) w ∧ VRel ρ e v := by
  have lift : ∀ {s : Sem Value}, (∃ v, s.run P w = .ok v w ∧ VRel ρ e v) → ∃ v, (do pure (Next.value (← s)) : Sem Next).run P w = .ok (.value v) w ∧ VRel ρ e v := by
    intro s hs
    obtain ⟨v, h1, h2⟩ := hs
    exact ⟨v, by rw [Sem.run_bind, h1]; rfl, h2⟩
  have arg0 : ∀ {x : EV} {l : List EV}, args = x :: l → ∃ x', args'[0]? = some x' ∧ VRel ρ x x' := by
    intro x l e
    subst e
    exact ha.getA rfl
  rcases hb with rfl | rfl | rfl | rfl | rfl
  · cases hts : ts.toList with
    | nil => rw [hts] at he; cases he
    | cons t tr =>
      rw [hts] at he
      cases args with
      | nil => cases he
      | cons x xs =>
        obtain ⟨e', h1, h2⟩ := map_some (show (lenE tb h t x).map (OR.val · h) = some (OR.val e h) from he)
        cases h2
        obtain ⟨x', hx0, hx⟩ := arg0 rfl
        exact lift (len_rel ht hr (list_get0 hts) hx0 hx h1)
  · cases hts : ts.toList with
    | nil => rw [hts] at he; cases he
    | cons t tr =>
      rw [hts] at he
      cases args with
      | nil => cases he
      | cons x xs =>
        obtain ⟨x', hx0, hx⟩ := arg0 rfl
        simp only [builtinE] at he
        split at he
        · rename_i hd
          cases he
          exact lift (cap_rel ht hd (list_get0 hts) hx0 hx (.inl ⟨_, _, _, _, _, _, rfl, rfl, rfl⟩) w)
        · rename_i hd
          cases he
          exact lift (cap_rel ht hd (list_get0 hts) hx0 hx (.inr ⟨_, rfl, rfl, rfl⟩) w)
        · cases he
  · obtain ⟨e', h1, h2⟩ := map_some (show (minE args).map (OR.val · h) = some (OR.val e h) from he)
    cases h2
    exact lift (min_rel ha h1 w)
  · obtain ⟨e', h1, h2⟩ := map_some (show (maxE args).map (OR.val · h) = some (OR.val e h) from he)
    cases h2
    exact lift (max_rel ha h1 w)
  · generalize ts.toList = tl at he
    have hcase : (args = [.nilSlice] ∧ e = .nilPtr) ∨ ∃ n off len cap es, args = [.slice n off len cap es] ∧ len ≠ 0 ∧ e = .ptr n off := by
      clear ha arg0
      unfold builtinE at he
      split at he <;> rename_i hh <;> first
        | (cases hh; done)
        | skip
      all_goals first
        | (cases he; done)
        | (cases he; exact .inl ⟨rfl, rfl⟩)
        | (split at he
           · cases he
           · rename_i h0; cases he; exact .inr ⟨_, _, _, _, _, rfl, h0, rfl⟩)
    rcases hcase with ⟨rfl, rfl⟩ | ⟨n, off, len, cap, es, rfl, h0, rfl⟩
    · refine lift ⟨.pointer none, ?_, .nilPtr⟩
      obtain ⟨a'⟩ := args'
      cases ha with | cons _ _ _ _ h1 h2 => ?_
      cases h2; cases h1
      rfl
    · obtain ⟨a'⟩ := args'
      cases ha with | cons _ _ _ _ h1 h2 => ?_
      cases h2
      cases h1 with | slice _ _ _ _ _ L o' c' hL hlc hcc hoo => ?_
      have ho' : o' = L.sh + off := by
        rcases hoo with h3 | ⟨h3, _⟩
        · omega
        · exact h3
      subst ho'
      refine lift ⟨.pointer (some ⟨L.b, L.sh + off, none⟩), ?_, .ptr _ _ L hL⟩
      have hdef : ∀ a : Addr, Builtin.unsafeSliceData_ ts ty #[.slice (some a) len c'] = (do
          if c' ≠ 0 then pure (.pointer (some a))
          else if (← viewAt a.block).isSome then pure (.pointer (some a))
          else pure (.pointer (some ⟨← newObj (.view a (← elemOf ty)), 0, none⟩)) : Sem Value) := fun a => rfl
      show (Builtin.unsafeSliceData_ ts ty #[.slice (some ⟨L.b, L.sh + off, none⟩) len c']).run P w = _
      rw [hdef, if_pos (show c' ≠ 0 by omega)]
      rfl

theorem quiet_sound (ht : TabOk P tb) (hf : FRel ρ f a.tmps) (hr : Rel P ρ h w) (hn : ρ nm = none) (hlt : nm < h.next) {e : EV} (hk : kindOf tb o.op = .pure ∨ kindOf tb o.op = .reader) (hx : opE tb h nm f o = some (.val e h)) :
    ∃ v, (execOp a.eval o).run P w = .ok (.value v) w ∧ VRel ρ e v := by
  have hg := opE_sound ht hf hr hn hlt hx
  rcases hg with ⟨_, hv⟩ | ⟨hz, _⟩
  · exact hv
  · cases ho : o.op <;> simp only [noisy, ho] at hz <;> first
      | (cases hz; done)
      | skip
    all_goals first
      | (rcases hk with hk | hk <;> simp only [ho, kindOf] at hk <;> cases hk; done)
      | skip
    · rename_i s d x
      simp only [opE, ho] at hx
      simp only [ho, kindOf] at hk
      split at hx
      · rename_i x0 h1
        split at hx
        · rename_i v h' h2
          cases hx
          rcases convert_rel ht hr hn hlt (ev_rel hf h1) h2 with ⟨_, v', q1, q2⟩ | ⟨hl, _⟩
          · refine ⟨v', ?_, q2⟩
            simp only [execOp, ho, Sem.run_bind, q1, Result.andThen_ok, Sem.run_pure]
          · unfold loudConv at hl
            rcases hk with hk | hk <;> rw [hk] at hl <;> cases hl
        · cases hx
      · cases hx
    · rename_i c
      simp only [ho, kindOf] at hk
      have hb : ∃ b, c.callee = .builtin b ∧ (b = .len ∨ b = .cap ∨ b = .min ∨ b = .max ∨ b = .unsafeSliceData) := by
        rcases hk with hk | hk
        · split at hk <;> cases hk
        · split at hk
          all_goals first
            | (cases hk; done)
            | exact ⟨_, by assumption, by simp⟩
      obtain ⟨b, hc, hb⟩ := hb
      simp only [opE, ho, callE1, hc] at hx
      split at hx
      · rename_i args hargs
        have har : VRels ρ args (c.args.map a.eval).toList := by
          have := evs_rel hf hargs
          simpa using this
        obtain ⟨v, q1, q2⟩ := builtin_quiet (ty := o.type) (cs := (c.args.map fun | .const _ => true | _ => false)) ht hr har hb hx
        refine ⟨v, ?_, q2⟩
        rw [← q1]
        simp only [execOp, ho]
        unfold resolve
        simp only [hc, Sem.run_bind, Sem.run_pure, Result.andThen_ok]
        rfl
      · cases hx

/-! ### What an operation has to wait for -/

/-- The edges of the operations bind to earlier ones. -/
def EdgesOk (ops : Array Oper) : Prop := ∀ i o, ops[i]? = some o → ∀ e ∈ o.after, Region.binds .any e = true → e.on < i

/-- Operation i waits for operation j. -/
def Bef (ops : Array Oper) (i j : Nat) : Prop := Nat.testBit ((Region.before ops).toList.getD i 0) j = true

omit [Syms] in
theorem fold_bits (acc : Array Nat) (j : Nat) : ∀ (es : List Edge) (s : Nat), (es.foldl (fun s e => if Region.binds .any e then s ||| 2 ^ e.on ||| acc.getD e.on 0 else s) s).testBit j = true →
    s.testBit j = true ∨ ∃ e ∈ es, Region.binds .any e = true ∧ (j = e.on ∨ (acc.getD e.on 0).testBit j = true)
  | [], s, h => .inl h
  | e :: es, s, h => by
    rw [List.foldl_cons] at h
    rcases fold_bits acc j es _ h with h1 | ⟨e', h1, h2, h3⟩
    · split at h1
      · rename_i hb
        rw [Nat.testBit_or, Nat.testBit_or, Bool.or_eq_true, Bool.or_eq_true] at h1
        rcases h1 with (h1 | h1) | h1
        · exact .inl h1
        · refine .inr ⟨e, by simp, hb, .inl ?_⟩
          rw [Nat.testBit_two_pow] at h1
          exact (of_decide_eq_true h1).symm
        · exact .inr ⟨e, by simp, hb, .inr h1⟩
      · exact .inl h1
    · exact .inr ⟨e', by simp [h1], h2, h3⟩

/-- The sets of what is waited for, one after the other. -/
def befStep (acc : Array Nat) (o : Oper) : Array Nat := acc.push (o.after.foldl (fun s e => if Region.binds .any e then s ||| 2 ^ e.on ||| acc.getD e.on 0 else s) 0)

omit [Syms] in
theorem before_eq (ops : Array Oper) : Region.before ops = ops.toList.foldl befStep #[] := by
  unfold Region.before
  rw [← Array.foldl_toList]
  rfl

omit [Syms] in
theorem bef_fold (ops : Array Oper) : ∀ (l : List Oper) (acc : Array Nat), ops.toList.drop acc.size = l →
    (∀ i j, i < acc.size → (acc.getD i 0).testBit j = true → ∃ o, ops[i]? = some o ∧ ∃ e ∈ o.after, Region.binds .any e = true ∧ (j = e.on ∨ (acc.getD e.on 0).testBit j = true)) → (hedge : EdgesOk ops) →
    ∀ i j, ((l.foldl befStep acc).getD i 0).testBit j = true → ∃ o, ops[i]? = some o ∧ ∃ e ∈ o.after, Region.binds .any e = true ∧ (j = e.on ∨ ((l.foldl befStep acc).getD e.on 0).testBit j = true)
  | [], acc, hl, hacc, hedge, i, j, h => by
    by_cases hi : i < acc.size
    · exact hacc i j hi h
    · have : acc.getD i 0 = 0 := by simp [Array.getD_eq_getD_getElem?]; rw [Array.getElem?_eq_none (by omega)]; rfl
      have h' : (acc.getD i 0).testBit j = true := h
      rw [this, Nat.zero_testBit] at h'
      cases h'
  | o :: l, acc, hl, hacc, hedge, i, j, h => by
    have ho : ops[acc.size]? = some o := by
      have : (ops.toList.drop acc.size)[0]? = some o := by rw [hl]; rfl
      rw [List.getElem?_drop] at this
      simpa using this
    have hsz : (befStep acc o).size = acc.size + 1 := by simp [befStep]
    have hget : ∀ k, k < acc.size → (befStep acc o).getD k 0 = acc.getD k 0 := by
      intro k hk
      simp only [befStep, Array.getD_eq_getD_getElem?, Array.getElem?_push]
      rw [if_neg (by omega)]
    refine bef_fold ops l (befStep acc o) ?_ ?_ hedge i j h
    · rw [hsz]
      have := congrArg (List.drop 1) hl
      rw [List.drop_drop] at this
      simpa using this
    · intro i j hi hb
      by_cases hi2 : i < acc.size
      · rw [hget i hi2] at hb
        obtain ⟨o', h1, e, h2, h3, h4⟩ := hacc i j hi2 hb
        refine ⟨o', h1, e, h2, h3, h4.imp id fun h5 => ?_⟩
        rw [hget _ (by have := hedge i o' h1 e h2 h3; omega)]
        exact h5
      · have : i = acc.size := by omega
        subst this
        refine ⟨o, ho, ?_⟩
        have hb' : (o.after.foldl (fun s e => if Region.binds .any e then s ||| 2 ^ e.on ||| acc.getD e.on 0 else s) 0).testBit j = true := by
          simpa [befStep, Array.getD_eq_getD_getElem?] using hb
        rw [← Array.foldl_toList] at hb'
        rcases fold_bits acc j _ _ hb' with h1 | ⟨e, h1, h2, h3⟩
        · rw [Nat.zero_testBit] at h1; cases h1
        · refine ⟨e, by simpa using h1, h2, h3.imp id fun h5 => ?_⟩
          rw [hget _ (hedge _ o ho e (by simpa using h1) h2)]
          exact h5

omit [Syms] in
theorem bef_spec {ops : Array Oper} (hedge : EdgesOk ops) {i j : Nat} (h : Bef ops i j) : ∃ o, ops[i]? = some o ∧ ∃ e ∈ o.after, Region.binds .any e = true ∧ (j = e.on ∨ Bef ops e.on j) := by
  unfold Bef at *
  rw [before_eq] at *
  have conv : ∀ (x : Array Nat) k, x.toList.getD k 0 = x.getD k 0 := by intro x k; simp [Array.getD_eq_getD_getElem?, List.getD_eq_getElem?_getD]
  rw [conv] at h
  obtain ⟨o, h1, e, h2, h3, h4⟩ := bef_fold ops ops.toList #[] rfl (fun i j hi => by simp at hi) hedge i j h
  exact ⟨o, h1, e, h2, h3, h4.imp id fun h5 => by rw [conv]; exact h5⟩

omit [Syms] in
/-- Who is in the set has all in it that it waits for. -/
theorem bef_closed {ops : Array Oper} (hedge : EdgesOk ops) {In : Nat → Prop} (hcl : ∀ i o, In i → ops[i]? = some o → ∀ e ∈ o.after, Region.binds .any e = true → In e.on) : ∀ (i j : Nat), In i → Bef ops i j → In j := by
  intro i
  induction i using Nat.strongRecOn with
  | _ i ih =>
    intro j hi hb
    obtain ⟨o, h1, e, h2, h3, h4⟩ := bef_spec hedge hb
    have h5 := hcl i o hi h1 e h2 h3
    rcases h4 with rfl | h4
    · exact h5
    · exact ih e.on (hedge i o h1 e h2 h3) j h5 h4

omit [Syms] in
/-- Who is ready has all in the set that it waits for. -/
theorem bef_ready {ops : Array Oper} (hedge : EdgesOk ops) {In : Nat → Prop} (hcl : ∀ i o, In i → ops[i]? = some o → ∀ e ∈ o.after, Region.binds .any e = true → In e.on) {i : Nat} {o : Oper} (ho : ops[i]? = some o)
    (hrd : ∀ e ∈ o.after, Region.binds .any e = true → In e.on) {j : Nat} (hb : Bef ops i j) : In j := by
  obtain ⟨o', h1, e, h2, h3, h4⟩ := bef_spec hedge hb
  rw [ho] at h1
  cases h1
  rcases h4 with rfl | h4
  · exact hrd e h2 h3
  · exact bef_closed hedge hcl e.on j (hrd e h2 h3) h4

end Go.Eng

namespace Go.Eng
open Go
variable [Syms]

variable {P : Program} {tb : Tab} {ex : Ex} {ops : Array Oper} {bef : List Nat} {base : Nat}

/-- What became of an operation, in the order of the text. -/
inductive Cl where
  | skip
  | quiet (rd : Bool) (v : EV)
  | alloc (v : EV) (ob : EO)
  | eff (r : OR) (v : Option EV)

def Cl.out : Cl → Option EV
  | .skip => some (.tuple [])
  | .quiet _ v => some v
  | .alloc v _ => some v
  | .eff _ v => v

def Cl.isEff : Cl → Bool
  | .eff .. => true
  | _ => false

def StepC (tb : Tab) (ex : Ex) (ops : Array Oper) (bef : List Nat) (base i : Nat) (o : Oper) (d d' : Dr) : Cl → Prop
  | .skip => wantedE ops d.f o = some false ∧ setDst d.f o.dst (some (.tuple [])) = some d'.f ∧ d'.h = d.h ∧ d'.effs = d.effs ∧ d'.gs = d.gs ∧ d'.als = d.als ∧ d'.rds = d.rds
  | .quiet rd v => wantedE ops d.f o = some true ∧ setDst d.f o.dst (some v) = some d'.f ∧ d'.h = d.h ∧ d'.effs = d.effs ∧ d'.gs = d.gs ∧ d'.als = d.als ∧
      opE tb d.h (base + i) d.f o = some (.val v d.h) ∧ (if rd then kindOf tb o.op = .reader ∧ d'.rds = (i, o, d.f, v, d.effs.length) :: d.rds else kindOf tb o.op = .pure ∧ d'.rds = d.rds)
  | .alloc v ob => wantedE ops d.f o = some true ∧ setDst d.f o.dst (some v) = some d'.f ∧ d'.h = d.h.set (base + i) ob ∧ d'.effs = d.effs ∧ d'.gs = d.gs ∧ d'.als = (i, d.effs.length) :: d.als ∧ d'.rds = d.rds ∧
      (∀ h2, opE tb h2 (base + i) d.f o = some (.val v (h2.set (base + i) ob))) ∧ (v = .ptr (base + i) 0 ∨ v = .map (base + i) ∨ ∃ len cap es, v = .slice (base + i) 0 len cap es)
  | .eff r v => wantedE ops d.f o = some true ∧ setDst d.f o.dst v = some d'.f ∧ d'.effs = i :: d.effs ∧ d'.gs = d'.h :: d.gs ∧ d'.als = d.als ∧ d'.rds = d.rds ∧
      opE tb d.h (base + i) d.f o = some r ∧ orWith tb ex d.h r = some (v, d'.h) ∧ (∀ e l, d.effs = e :: l → Nat.testBit (bef.getD i 0) e = true)

omit [Syms] in
theorem drawOne_step {o : Oper} {i : Nat} {d d' : Dr} (h : drawOne tb ex ops bef o i base d = some d') : ∃ c, StepC tb ex ops bef base i o d d' c := by
  unfold drawOne at h
  split at h
  · rename_i hw
    obtain ⟨f', h1, rfl⟩ := map_some h
    exact ⟨.skip, hw, h1, rfl, rfl, rfl, rfl, rfl⟩
  · rename_i hw
    split at h
    · rename_i r hop
      split at h
      · rename_i hk
        have hcond : ∀ {b : Bool}, b = true → b = true := id
        split at h
        · rename_i hc
          split at h
          · rename_i v h' hor
            split at h
            · rename_i f' hs
              cases h
              refine ⟨.eff r v, hw, hs, rfl, rfl, rfl, rfl, hop, hor, fun e l hl => ?_⟩
              rw [hl] at hc
              exact hc
            · cases h
          · cases h
        · cases h
      · rename_i hk
        obtain ⟨v, ob, rfl, h2, h3⟩ := kind_alloc hk hop
        simp only at h
        split at h
        · rename_i f' hs
          cases h
          exact ⟨.alloc v ob, hw, hs, rfl, rfl, rfl, rfl, rfl, h2, h3⟩
        · cases h
      · rename_i hk
        obtain ⟨v, rfl, h2⟩ := kind_reader hk hop
        simp only at h
        split at h
        · rename_i f' hs
          cases h
          exact ⟨.quiet true v, hw, hs, rfl, rfl, rfl, rfl, hop, hk, rfl⟩
        · cases h
      · rename_i hk
        obtain ⟨v, rfl, h2⟩ := kind_pure hk hop
        simp only at h
        split at h
        · rename_i f' hs
          cases h
          exact ⟨.quiet false v, hw, hs, rfl, rfl, rfl, rfl, hop, hk, rfl⟩
        · cases h
    · cases h
  · cases h

/-- The run in the order of the text. -/
structure Txt (tb : Tab) (ex : Ex) (ops : Array Oper) (bef : List Nat) (base : Nat) (d0 : Dr) (D : Nat → Dr) (C : Nat → Cl) : Prop where
  zero : D 0 = d0
  st : ∀ i o, ops[i]? = some o → StepC tb ex ops bef base i o (D i) (D (i + 1)) (C i)

omit [Syms] in
theorem drawAll_run : ∀ (l : List Oper) (i : Nat) (d d' : Dr), drawAll tb ex ops bef base l i d = some d' → ops.toList.drop i = l →
    ∃ D : Nat → Dr, D i = d ∧ D (i + l.length) = d' ∧ ∀ j o, i ≤ j → ops[j]? = some o → ∃ c, StepC tb ex ops bef base j o (D j) (D (j + 1)) c
  | [], i, d, d', h, hl => by
    cases h
    refine ⟨fun _ => d, rfl, rfl, fun j o hj ho => ?_⟩
    have hlt := (Array.getElem?_eq_some_iff.1 ho).1
    have := congrArg List.length hl
    simp at this
    omega
  | o :: l, i, d, d', h, hl => by
    simp only [drawAll] at h
    split at h
    · rename_i d1 h1
      have ho : ops[i]? = some o := by
        have : (ops.toList.drop i)[0]? = some o := by rw [hl]; rfl
        rw [List.getElem?_drop] at this
        simpa using this
      have hl' : ops.toList.drop (i + 1) = l := by
        have := congrArg (List.drop 1) hl
        rw [List.drop_drop] at this
        simpa using this
      obtain ⟨D, g1, g2, g3⟩ := drawAll_run l (i + 1) d1 d' h hl'
      refine ⟨fun j => if j = i then d else D j, by simp, ?_, fun j o' hj ho' => ?_⟩
      · have : ¬ i + (o :: l).length = i := by simp
        simp only [this, if_false]
        rw [← g2]
        congr 1
        simp only [List.length_cons]; omega
      · by_cases hji : j = i
        · subst hji
          rw [ho] at ho'
          cases ho'
          have : ¬ j + 1 = j := by omega
          simp only [if_true, this, if_false, g1]
          exact drawOne_step h1
        · have h2 : ¬ j + 1 = i := by omega
          simp only [hji, h2, if_false]
          exact g3 j o' (by omega) ho'
    · cases h

omit [Syms] in
theorem drawAll_txt {d0 d : Dr} (h : drawAll tb ex ops bef base ops.toList 0 d0 = some d) : ∃ D C, Txt tb ex ops bef base d0 D C ∧ D ops.size = d := by
  obtain ⟨D, g1, g2, g3⟩ := drawAll_run ops.toList 0 d0 d h rfl
  have hc : ∀ i, ∃ c, ∀ o, ops[i]? = some o → StepC tb ex ops bef base i o (D i) (D (i + 1)) c := by
    intro i
    cases ho : ops[i]? with
    | none => exact ⟨.skip, fun o e => by cases e⟩
    | some o => obtain ⟨c, hc⟩ := g3 i o (Nat.zero_le _) ho; exact ⟨c, fun o' e => by cases e; exact hc⟩
  refine ⟨D, fun i => Classical.choose (hc i), ⟨g1, fun i o ho => Classical.choose_spec (hc i) o ho⟩, ?_⟩
  rw [← g2]
  congr 1
  simp

section txt
variable {d0 : Dr} {D : Nat → Dr} {C : Nat → Cl}

omit [Syms] in
theorem Txt.effs_step (T : Txt tb ex ops bef base d0 D C) {i : Nat} {o : Oper} (ho : ops[i]? = some o) :
    ((C i).isEff = true ∧ (D (i + 1)).effs = i :: (D i).effs ∧ (D (i + 1)).gs = (D (i + 1)).h :: (D i).gs) ∨ ((C i).isEff = false ∧ (D (i + 1)).effs = (D i).effs ∧ (D (i + 1)).gs = (D i).gs) := by
  have h := T.st i o ho
  cases hc : C i <;> rw [hc] at h
  · exact .inr ⟨rfl, h.2.2.2.1, h.2.2.2.2.1⟩
  · exact .inr ⟨rfl, h.2.2.2.1, h.2.2.2.2.1⟩
  · exact .inr ⟨rfl, h.2.2.2.1, h.2.2.2.2.1⟩
  · exact .inl ⟨rfl, h.2.2.1, h.2.2.2.1⟩

omit [Syms] in
theorem op_at {i : Nat} (hi : i < ops.size) : ∃ o, ops[i]? = some o := ⟨ops[i], by simp [hi]⟩

omit [Syms] in
theorem Txt.pre (T : Txt tb ex ops bef base d0 D C) (i : Nat) : ∀ n, i + n ≤ ops.size → ∃ l l', (D (i + n)).effs = l ++ (D i).effs ∧ (D (i + n)).gs = l' ++ (D i).gs ∧ l.length = l'.length
  | 0, _ => ⟨[], [], rfl, rfl, rfl⟩
  | n + 1, hn => by
    obtain ⟨l, l', h1, h2, h3⟩ := T.pre i n (by omega)
    obtain ⟨o, ho⟩ := op_at (ops := ops) (i := i + n) (by omega)
    rcases T.effs_step ho with ⟨_, e1, e2⟩ | ⟨_, e1, e2⟩
    · exact ⟨(i + n) :: l, (D (i + n + 1)).h :: l', by rw [show i + (n + 1) = i + n + 1 by omega, e1, h1]; rfl, by rw [show i + (n + 1) = i + n + 1 by omega, e2, h2]; rfl, by simp [h3]⟩
    · exact ⟨l, l', by rw [show i + (n + 1) = i + n + 1 by omega, e1, h1], by rw [show i + (n + 1) = i + n + 1 by omega, e2, h2], h3⟩

/-- The effects, in the order of the text; the heaps behind none, one, .. of them. -/
def Txt.E (ops : Array Oper) (D : Nat → Dr) : List Nat := (D ops.size).effs.reverse
def Txt.H (ops : Array Oper) (D : Nat → Dr) (h0 : EH) (k : Nat) : EH := ((D ops.size).gs.reverse[k]?).getD h0
def Txt.lev (D : Nat → Dr) (i : Nat) : Nat := (D i).effs.length

/-- What the run begins with. -/
structure Start (d0 : Dr) (f0 : Fr) (h0 : EH) : Prop where
  f : d0.f = f0
  h : d0.h = h0
  effs : d0.effs = []
  gs : d0.gs = [h0]

omit [Syms] in
theorem Txt.gs_len (T : Txt tb ex ops bef base d0 D C) {f0 : Fr} {h0 : EH} (S : Start d0 f0 h0) : ∀ i, i ≤ ops.size → (D i).gs.length = Txt.lev D i + 1
  | 0, _ => by rw [Txt.lev, T.zero, S.gs, S.effs]; rfl
  | i + 1, hi => by
    obtain ⟨o, ho⟩ := op_at (ops := ops) (i := i) (by omega)
    have := T.gs_len S i (by omega)
    rcases T.effs_step ho with ⟨_, e1, e2⟩ | ⟨_, e1, e2⟩
    · rw [Txt.lev, e1, e2]; simp [this, Txt.lev]
    · rw [Txt.lev, e1, e2]; exact this

omit [Syms] in
theorem Txt.head (T : Txt tb ex ops bef base d0 D C) {f0 : Fr} {h0 : EH} (S : Start d0 f0 h0) {i : Nat} (hi : i ≤ ops.size) : ∃ rest, (D i).gs = Txt.H ops D h0 (Txt.lev D i) :: rest := by
  have hl := T.gs_len S i hi
  cases hg : (D i).gs with
  | nil => rw [hg] at hl; simp at hl
  | cons g rest =>
    refine ⟨rest, ?_⟩
    congr 1
    obtain ⟨l, l', h1, h2, h3⟩ := T.pre i (ops.size - i) (by omega)
    rw [show i + (ops.size - i) = ops.size by omega] at h2
    unfold Txt.H
    rw [h2, hg, List.reverse_append, List.reverse_cons]
    rw [hg] at hl
    simp only [List.length_cons] at hl
    rw [List.getElem?_append_left (by simp; omega), List.getElem?_append_right (by simp; omega)]
    have : Txt.lev D i - rest.reverse.length = 0 := by simp; omega
    rw [this]
    rfl

omit [Syms] in
theorem Txt.eff_at (T : Txt tb ex ops bef base d0 D C) {i : Nat} (hi : i < ops.size) (he : (C i).isEff = true) : (Txt.E ops D)[Txt.lev D i]? = some i ∧ Txt.lev D (i + 1) = Txt.lev D i + 1 := by
  obtain ⟨o, ho⟩ := op_at (ops := ops) hi
  rcases T.effs_step ho with ⟨_, e1, e2⟩ | ⟨h0, _⟩
  · obtain ⟨l, l', h1, h2, h3⟩ := T.pre (i + 1) (ops.size - (i + 1)) (by omega)
    rw [show i + 1 + (ops.size - (i + 1)) = ops.size by omega, e1] at h1
    refine ⟨?_, by rw [Txt.lev, e1]; rfl⟩
    unfold Txt.E
    rw [h1, List.reverse_append, List.reverse_cons, List.getElem?_append_left (by simp [Txt.lev]), List.getElem?_append_right (by simp [Txt.lev])]
    simp [Txt.lev]
  · rw [he] at h0; cases h0

omit [Syms] in
theorem Txt.eff_of (T : Txt tb ex ops bef base d0 D C) {f0 : Fr} {h0 : EH} (S : Start d0 f0 h0) : ∀ i, i ≤ ops.size → ∀ k e, (D i).effs.reverse[k]? = some e → e < i ∧ (C e).isEff = true ∧ Txt.lev D e = k
  | 0, _, k, e, h => by rw [T.zero, S.effs] at h; simp at h
  | i + 1, hi, k, e, h => by
    obtain ⟨o, ho⟩ := op_at (ops := ops) (i := i) (by omega)
    rcases T.effs_step ho with ⟨he, e1, e2⟩ | ⟨_, e1, e2⟩
    · rw [e1, List.reverse_cons] at h
      by_cases hk : k < (D i).effs.reverse.length
      · rw [List.getElem?_append_left hk] at h
        have := T.eff_of S i (by omega) k e h
        exact ⟨by omega, this.2⟩
      · rw [List.getElem?_append_right (by omega)] at h
        have hk2 : k - (D i).effs.reverse.length = 0 := by
          have := (List.getElem?_eq_some_iff.1 h).1
          simp at this
          simp; omega
        rw [hk2] at h
        cases h
        refine ⟨by omega, he, ?_⟩
        simp at hk hk2
        unfold Txt.lev
        omega
    · rw [e1] at h
      have := T.eff_of S i (by omega) k e h
      exact ⟨by omega, this.2⟩

omit [Syms] in
theorem Txt.E_of (T : Txt tb ex ops bef base d0 D C) {f0 : Fr} {h0 : EH} (S : Start d0 f0 h0) {k e : Nat} (h : (Txt.E ops D)[k]? = some e) : e < ops.size ∧ (C e).isEff = true ∧ Txt.lev D e = k :=
  T.eff_of S ops.size (Nat.le_refl _) k e h

omit [Syms] in
/-- The effects wait for one another. -/
theorem Txt.chain (T : Txt tb ex ops (Region.before ops).toList base d0 D C) {f0 : Fr} {h0 : EH} (S : Start d0 f0 h0) {k e e' : Nat} (h : (Txt.E ops D)[k]? = some e) (h' : (Txt.E ops D)[k + 1]? = some e') : Bef ops e' e := by
  obtain ⟨g1, g2, g3⟩ := T.E_of S h'
  obtain ⟨o, ho⟩ := op_at (ops := ops) g1
  have hst := T.st e' o ho
  cases hc : C e' <;> rw [hc] at g2 hst <;> first | (cases g2; done) | skip
  have hch := hst.2.2.2.2.2.2.2.2
  cases hef : (D e').effs with
  | nil => rw [Txt.lev, hef] at g3; simp at g3
  | cons x l =>
    have hb := hch x l hef
    have hx : x = e := by
      obtain ⟨l1, l2, h1, h2, h3⟩ := T.pre e' (ops.size - e') (by omega)
      rw [show e' + (ops.size - e') = ops.size by omega, hef] at h1
      unfold Txt.E at h
      rw [Txt.lev, hef] at g3
      simp only [List.length_cons] at g3
      rw [h1, List.reverse_append, List.reverse_cons, List.getElem?_append_left (by simp; omega), List.getElem?_append_right (by simp; omega)] at h
      have : k - l.reverse.length = 0 := by simp; omega
      rw [this] at h
      simpa using h
    subst hx
    exact hb

/-- Operation j writes t. -/
def Wr (ops : Array Oper) (j : Nat) (t : Tmp) : Prop := ∃ o, ops[j]? = some o ∧ o.dst = some t

omit [Syms] in
theorem Txt.dst (T : Txt tb ex ops bef base d0 D C) {i : Nat} {o : Oper} (ho : ops[i]? = some o) : setDst (D i).f o.dst (C i).out = some (D (i + 1)).f := by
  have h := T.st i o ho
  cases hc : C i <;> rw [hc] at h
  · exact h.2.1
  · exact h.2.1
  · exact h.2.1
  · exact h.2.1

omit [Syms] in
theorem setDst_get {f f' : Fr} {dst : Option Tmp} {v : Option EV} (h : setDst f dst v = some f') : f'.n = f.n ∧ ∀ t e, f'.get t = some e → (dst = some t ∧ v = some e) ∨ (dst ≠ some t ∧ f.get t = some e) := by
  cases dst with
  | none => cases h; exact ⟨rfl, fun t e he => .inr ⟨by simp, he⟩⟩
  | some d =>
    cases v with
    | none =>
      cases h
      refine ⟨rfl, fun t e he => ?_⟩
      obtain ⟨hne, he'⟩ := T.get_del _ _ _ _ he
      exact .inr ⟨fun x => hne (by cases x; rfl), he'⟩
    | some v =>
      simp only [setDst, Fr.put] at h
      cases hb : Nat.blt d f.n with
      | false => rw [hb] at h; cases h
      | true =>
        rw [hb] at h
        cases h
        refine ⟨rfl, fun t e he => ?_⟩
        rcases T.get_set _ _ _ _ _ _ he with ⟨rfl, rfl⟩ | ⟨hne, he'⟩
        · exact .inl ⟨rfl, rfl⟩
        · exact .inr ⟨fun x => hne (by cases x; rfl), he'⟩

omit [Syms] in
theorem Txt.frames (T : Txt tb ex ops bef base d0 D C) {f0 : Fr} {h0 : EH} (S : Start d0 f0 h0) : ∀ i, i ≤ ops.size → (D i).f.n = f0.n ∧ ∀ t e, (D i).f.get t = some e →
    (∃ j, j < i ∧ Wr ops j t ∧ (C j).out = some e ∧ ∀ j', j < j' → j' < i → ¬ Wr ops j' t) ∨ ((∀ j, j < i → ¬ Wr ops j t) ∧ f0.get t = some e)
  | 0, _ => by rw [T.zero, S.f]; exact ⟨rfl, fun t e h => .inr ⟨fun j hj => by omega, h⟩⟩
  | i + 1, hi => by
    obtain ⟨o, ho⟩ := op_at (ops := ops) (i := i) (by omega)
    obtain ⟨g1, g2⟩ := T.frames S i (by omega)
    obtain ⟨g3, g4⟩ := setDst_get (T.dst ho)
    refine ⟨g3.trans g1, fun t e he => ?_⟩
    rcases g4 t e he with ⟨h1, h2⟩ | ⟨h1, h2⟩
    · exact .inl ⟨i, by omega, ⟨o, ho, h1⟩, h2, fun j' a b => by omega⟩
    · have hnw : ¬ Wr ops i t := fun ⟨o', a, b⟩ => by rw [ho] at a; cases a; exact h1 b
      rcases g2 t e h2 with ⟨j, q1, q2, q3, q4⟩ | ⟨q1, q2⟩
      · refine .inl ⟨j, by omega, q2, q3, fun j' a b => ?_⟩
        by_cases hj : j' = i
        · subst hj; exact hnw
        · exact q4 j' a (by omega)
      · refine .inr ⟨fun j a => ?_, q2⟩
        by_cases hj : j = i
        · subst hj; exact hnw
        · exact q1 j (by omega)

omit [Syms] in
theorem Txt.heap (T : Txt tb ex ops bef base d0 D C) {f0 : Fr} {h0 : EH} (S : Start d0 f0 h0) : ∀ i, i ≤ ops.size → (D i).h.next = (Txt.H ops D h0 (Txt.lev D i)).next ∧ ∀ n x, (D i).h.get n = some x →
    (Txt.H ops D h0 (Txt.lev D i)).get n = some x ∨ ∃ j v, j < i ∧ C j = .alloc v x ∧ Txt.lev D j = Txt.lev D i ∧ n = base + j
  | 0, hi => by
    obtain ⟨rest, hr⟩ := T.head S hi
    rw [T.zero, S.gs] at hr
    injection hr with h1 h2
    rw [← h1, T.zero, S.h]
    exact ⟨rfl, fun n x h => .inl h⟩
  | i + 1, hi => by
    obtain ⟨o, ho⟩ := op_at (ops := ops) (i := i) (by omega)
    obtain ⟨g1, g2⟩ := T.heap S i (by omega)
    have hst := T.st i o ho
    have keep : (D (i + 1)).h = (D i).h → (D (i + 1)).effs = (D i).effs → (D (i + 1)).h.next = (Txt.H ops D h0 (Txt.lev D (i + 1))).next ∧ ∀ n x, (D (i + 1)).h.get n = some x →
        (Txt.H ops D h0 (Txt.lev D (i + 1))).get n = some x ∨ ∃ j v, j < i + 1 ∧ C j = .alloc v x ∧ Txt.lev D j = Txt.lev D (i + 1) ∧ n = base + j := by
      intro e1 e2
      have e3 : Txt.lev D (i + 1) = Txt.lev D i := by rw [Txt.lev, e2]; rfl
      rw [e1, e3]
      refine ⟨g1, fun n x hx => ?_⟩
      rcases g2 n x hx with h | ⟨j, v, a, b, c, d⟩
      · exact .inl h
      · exact .inr ⟨j, v, by omega, b, c, d⟩
    cases hc : C i <;> rw [hc] at hst
    · exact keep hst.2.2.1 hst.2.2.2.1
    · exact keep hst.2.2.1 hst.2.2.2.1
    · rename_i v ob
      have e3 : Txt.lev D (i + 1) = Txt.lev D i := by rw [Txt.lev, hst.2.2.2.1]; rfl
      rw [hst.2.2.1, e3]
      refine ⟨g1, fun n x hx => ?_⟩
      rcases EH.get_set hx with ⟨rfl, rfl⟩ | ⟨hne, hx⟩
      · exact .inr ⟨i, v, by omega, hc, rfl, rfl⟩
      · rcases g2 n x hx with h | ⟨j, v', a, b, c, d⟩
        · exact .inl h
        · exact .inr ⟨j, v', by omega, b, c, d⟩
    · obtain ⟨rest, hr⟩ := T.head S hi
      rw [hst.2.2.2.1] at hr
      injection hr with h1 h2
      rw [← h1]
      exact ⟨rfl, fun n x h => .inl h⟩

omit [Syms] in
theorem Txt.als (T : Txt tb ex ops bef base d0 D C) {i : Nat} (hi : i < ops.size) {v : EV} {ob : EO} (hc : C i = .alloc v ob) : (i, Txt.lev D i) ∈ (D ops.size).als := by
  have grow : ∀ n j, j + n ≤ ops.size → ∀ x ∈ (D j).als, x ∈ (D (j + n)).als := by
    intro n
    induction n with
    | zero => intro j _ x hx; exact hx
    | succ n ih =>
      intro j hj x hx
      obtain ⟨o, ho⟩ := op_at (ops := ops) (i := j + n) (by omega)
      have h1 := ih j (by omega) x hx
      have hst := T.st (j + n) o ho
      rw [show j + (n + 1) = j + n + 1 by omega]
      cases hc : C (j + n) <;> rw [hc] at hst
      · rw [hst.2.2.2.2.2.1]; exact h1
      · rw [hst.2.2.2.2.2.1]; exact h1
      · rw [hst.2.2.2.2.2.1]; exact List.mem_cons_of_mem _ h1
      · rw [hst.2.2.2.2.1]; exact h1
  obtain ⟨o, ho⟩ := op_at (ops := ops) hi
  have hst := T.st i o ho
  rw [hc] at hst
  have := grow (ops.size - (i + 1)) (i + 1) (by omega) (i, Txt.lev D i) (by rw [hst.2.2.2.2.2.1]; exact List.mem_cons_self)
  rwa [show i + 1 + (ops.size - (i + 1)) = ops.size by omega] at this

omit [Syms] in
theorem Txt.rds (T : Txt tb ex ops bef base d0 D C) {i : Nat} {o : Oper} (ho : ops[i]? = some o) {v : EV} (hc : C i = .quiet true v) : (i, o, (D i).f, v, Txt.lev D i) ∈ (D ops.size).rds := by
  have grow : ∀ n j, j + n ≤ ops.size → ∀ x ∈ (D j).rds, x ∈ (D (j + n)).rds := by
    intro n
    induction n with
    | zero => intro j _ x hx; exact hx
    | succ n ih =>
      intro j hj x hx
      obtain ⟨o, ho⟩ := op_at (ops := ops) (i := j + n) (by omega)
      have h1 := ih j (by omega) x hx
      have hst := T.st (j + n) o ho
      rw [show j + (n + 1) = j + n + 1 by omega]
      cases hc : C (j + n) <;> rw [hc] at hst
      · rw [hst.2.2.2.2.2.2]; exact h1
      · rename_i rd v
        have := hst.2.2.2.2.2.2.2
        cases rd with
        | true => rw [this.2]; exact List.mem_cons_of_mem _ h1
        | false => rw [this.2]; exact h1
      · rw [hst.2.2.2.2.2.2.1]; exact h1
      · rw [hst.2.2.2.2.2.1]; exact h1
  have hi := (Array.getElem?_eq_some_iff.1 ho).1
  have hst := T.st i o ho
  rw [hc] at hst
  have h2 := hst.2.2.2.2.2.2.2
  simp only [if_true] at h2
  have := grow (ops.size - (i + 1)) (i + 1) (by omega) (i, o, (D i).f, v, Txt.lev D i) (by rw [h2.2]; exact List.mem_cons_self)
  rwa [show i + 1 + (ops.size - (i + 1)) = ops.size by omega] at this

end txt
end Go.Eng

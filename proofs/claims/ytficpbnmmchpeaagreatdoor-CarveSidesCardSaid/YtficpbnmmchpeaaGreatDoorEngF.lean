/- A part of the proof of CarveSides: a verified interpreter of the model's own code, its soundness, and contracts of the library's functions. Conditions: none. -/
import Derived.Test.YtficpbnmmchpeaaGreatDoorEngE
import Derived.RangeFuncRecord
import Derived.RangeFuncNested
import Derived.OrdersIn
namespace Go.Eng
open Go
variable [Syms]

variable {P : Program} {tb : Tab} {ρ : Ren} {h : EH} {w : World} {f : Fr} {a : Act} {o : Oper}

/-! ### What is asked of a call, of a round, of code -/

/-- A call comes to a value. -/
def CallOk (P : Program) (g : FuncId) (args' : Array Value) (w : World) (K : Value → World → Prop) : Prop :=
  ((callFunc g args').run P w = .ok (.enter g args') w ∧ ∀ n, CallsIn Fence.wide n P g args' w fun e w' => ∃ v, e = .returned v ∧ K v w') ∨
  (∃ v w', (callFunc g args').run P w = .ok (.value v) w' ∧ K v w')

/-- What is known behind a call. -/
def CPost (P : Program) (ρ : Ren) (h : EH) (w : World) (v : EV) (h' : EH) (v' : Value) (w' : World) : Prop :=
  ∃ ρ', VRel ρ' v v' ∧ Rel P ρ' h' w' ∧ Extd (h.next ≤ ·) ρ h w ρ' h' w'

/-- A mark among the deferred calls. -/
def markOf (b : Nat) : Deferred := { target := .collected b, args := #[] }

/-- The marks that were put ahead of the deferred calls. -/
def DRel (w0 : World) (ds0 ds : List Deferred) (ρ : Ren) (h : EH) (w : World) : Prop :=
  ∃ bs : List Nat, ds = bs.map markOf ++ ds0 ∧ bs.Nodup ∧ ∀ b ∈ bs, w0.heap.size ≤ b ∧ b < w.heap.size ∧ w.heap[b]? = some (.deferred (some [])) ∧ ∀ n o L, h.get n = some o → ρ n = some L → L.b ≠ b

def XR.is : XR → Exit → Fr → EH → Prop
  | .normal f h, .normal, f', h' => f' = f ∧ h' = h
  | .exit i f h, .exit j, f', h' => j = i ∧ f' = f ∧ h' = h
  | .goto i f h, .goto j, f', h' => j = i ∧ f' = f ∧ h' = h
  | .ret f h, .ret, f', h' => f' = f ∧ h' = h
  | _, _, _, _ => False

def XPost (P : Program) (ρ : Ren) (h : EH) (w : World) (ds : List Deferred) (x : XR) : Exit → Act → World → Prop := fun e a' w' =>
  ∃ ρ' f' h', x.is e f' h' ∧ FRel ρ' f' a'.tmps ∧ Rel P ρ' h' w' ∧ Extd (h.next ≤ ·) ρ h w ρ' h' w' ∧ DRel w ds a'.defers ρ' h' w'

def wideAt (ro : Option Nat) : Fence := { Fence.wide with round := ro }
omit [Syms] in
theorem wideAt_none : wideAt none = Fence.wide := rfl
omit [Syms] in
theorem wideAt_some (l : Nat) : wideAt (some l) = Fence.wide.inRound l := rfl

def LoopOk (ro : Option Nat) (w : World) : Prop := ∀ b, ro = some b → ∃ r, w.heap[b]? = some (Obj.loop r)

omit [Syms] in
theorem LoopOk.ext {ro : Option Nat} {S : Nat → Prop} {ρ' : Ren} {h' : EH} {w' : World} (hl : LoopOk ro w) (hx : Extd S ρ h w ρ' h' w') : LoopOk ro w' := fun b e =>
  let ⟨r, hr⟩ := hl b e; hx.loops b r hr

def SoundX (P : Program) (ex : Ex) : Prop := ∀ (rd : Bool) (c : Code) (f : Fr) (h : EH) (x : XR), ex rd c f h = x → x ≠ .fail →
  ∀ (ro : Option Nat) (n : Nat) (ρ : Ren) (a : Act) (w : World), FRel ρ f a.tmps → Rel P ρ h w → LoopOk ro w → c.wpIn (wideAt ro) n P (XPost P ρ h w a.defers x) a w

def SoundC (P : Program) (tb : Tab) (ex : Ex) : Prop := ∀ (g : FuncId) (args : List EV) (h : EH) (v : EV) (h' : EH), callWith tb ex g args h = some (v, h') →
  ∀ (ρ : Ren) (w : World) (args' : Array Value), Rel P ρ h w → VRels ρ args args'.toList → CallOk P g args' w (CPost P ρ h w v h')

/-- A round comes to a value. -/
def SoundR (P : Program) (ex : Ex) : Prop := ∀ (l : Nat) (args : List EV) (h : EH) (v : EV) (h' : EH), roundWith ex l args h = some (v, h') →
  ∀ (ρ : Ren) (w : World) (L : Loc) (args' : Array Value), ρ l = some L → Rel P ρ h w → VRels ρ args args'.toList →
    ∃ g tmps asg bd, (Instr.yield L.b args').run P w = .ok (.round L.b g tmps asg bd) w ∧ ∀ n, RoundIn Fence.wide n P L.b g tmps asg bd w fun e w' => ∃ v', e = .returned v' ∧ CPost P ρ h w v h' v' w'

/-- The tables' words on functions. -/
structure FnOk (P : Program) (tb : Tab) : Prop extends TabOk P tb where
  enter : ∀ g fn c, tb.fn g = some fn → fn.body = some c → ∀ args w, (callFunc g args).run P w = .ok (.enter g args) w
  ext : ∀ g x, tb.ext g = some x → ∀ (args : List EV) (h : EH) (v : EV) (h' : EH), extE x args h = some (v, h') → ∀ (ρ : Ren) (w : World) (args' : Array Value), Rel P ρ h w → VRels ρ args args'.toList → CallOk P g args' w (CPost P ρ h w v h')
  intr : ∀ g r, tb.intr g = some r → ∀ (args : List EV) (h : EH) (v : EV) (h' : EH), r args h = some (v, h') → ∀ (ρ : Ren) (w : World) (args' : Array Value), Rel P ρ h w → VRels ρ args args'.toList → CallOk P g args' w (CPost P ρ h w v h')
  mixed : P.follows .mixedOrders = true

/-! ### Small laws -/

omit [Syms] in
theorem DRel.refl (w0 : World) (ds : List Deferred) (ρ : Ren) (h : EH) (w : World) : DRel w0 ds ds ρ h w := ⟨[], rfl, .nil, fun b hb => by cases hb⟩

omit [Syms] in
theorem DRel.keep {S : Nat → Prop} {w0 : World} {ds0 ds : List Deferred} {ρ' : Ren} {h' : EH} {w' : World} (hd : DRel w0 ds0 ds ρ h w) (hx : Extd S ρ h w ρ' h' w') : DRel w0 ds0 ds ρ' h' w' := by
  obtain ⟨bs, e, hn, hb⟩ := hd
  refine ⟨bs, e, hn, fun b hm => ?_⟩
  obtain ⟨h1, h2, h3, h4⟩ := hb b hm
  refine ⟨h1, Nat.lt_of_lt_of_le h2 hx.size, (hx.kept b h2 h4).trans h3, fun n o L e1 e2 e3 => ?_⟩
  obtain ⟨m, o', M, f1, f2, f3⟩ := hx.sub n o L e1 e2 (by omega)
  exact h4 m o' M f1 f2 (f3.trans e3)

omit [Syms] in
theorem DRel.trans {S : Nat → Prop} {w0 : World} {ds0 ds1 ds2 : List Deferred} {ρ' : Ren} {h' : EH} {w' : World} (hd : DRel w0 ds0 ds1 ρ h w) (hx : Extd S ρ h w ρ' h' w') (hs : w0.heap.size ≤ w.heap.size) (hd' : DRel w ds1 ds2 ρ' h' w') : DRel w0 ds0 ds2 ρ' h' w' := by
  obtain ⟨bs, e, hn, hb⟩ := hd.keep hx
  obtain ⟨bs', e', hn', hb'⟩ := hd'
  obtain ⟨cs, ec, hnc, hbc⟩ := hd
  have hcs : bs = cs := by
    have h1 := ec.symm.trans e
    have h2 := List.append_cancel_right h1
    have : ∀ (x y : List Nat), x.map markOf = y.map markOf → x = y := by
      intro x
      induction x with
      | nil => intro y hy; cases y with
        | nil => rfl
        | cons _ _ => simp at hy
      | cons c x ih => intro y hy; cases y with
        | nil => simp at hy
        | cons d y =>
          simp only [List.map_cons, List.cons.injEq, markOf, Deferred.mk.injEq, Target.collected.injEq, and_true] at hy
          rw [hy.1, ih y hy.2]
    exact (this _ _ h2).symm
  subst hcs
  refine ⟨bs' ++ bs, by rw [e', e, List.map_append, List.append_assoc], ?_, fun b hm => ?_⟩
  · rw [List.nodup_append]
    refine ⟨hn', hn, fun x hx1 y hy1 exy => ?_⟩
    have h1 := (hb' x hx1).1
    have h2 := (hbc y hy1).2.1
    omega
  · rw [List.mem_append] at hm
    rcases hm with hm | hm
    · obtain ⟨h1, h2, h3, h4⟩ := hb' b hm
      exact ⟨by omega, h2, h3, h4⟩
    · exact hb b hm

theorem XPost.trans {ρ1 : Ren} {h1 : EH} {w1 : World} {ds ds1 : List Deferred} {x : XR} (hx : Extd (h.next ≤ ·) ρ h w ρ1 h1 w1) (hd : DRel w ds ds1 ρ1 h1 w1) : ∀ e a' w', XPost P ρ1 h1 w1 ds1 x e a' w' → XPost P ρ h w ds x e a' w' := by
  intro e a' w' hq
  obtain ⟨ρ', f', h', q1, q2, q3, q4, q5⟩ := hq
  exact ⟨ρ', f', h', q1, q2, q3, hx.trans q4 (fun _ h => h) (fun n hn => Nat.le_trans hx.next hn), hd.trans q4 hx.size q5⟩

theorem FRel.put_tmps {f' : Fr} {t : Nat} {e : EV} {v : Value} {tm : Array Value} (hf : FRel ρ f tm) (hv : VRel ρ e v) (hp : f.put t e = some f') : FRel ρ f' (tm.setIfInBounds t v) := by
  unfold Fr.put at hp
  cases hb : Nat.blt t f.n with
  | false => rw [hb] at hp; cases hp
  | true =>
    rw [hb] at hp
    cases hp
    have hlt : t < f.n := Nat.le_of_ble_eq_true hb
    refine ⟨by simp [hf.1], fun s e' he => ?_⟩
    rcases T.get_set _ _ _ _ _ _ he with ⟨rfl, rfl⟩ | ⟨hne, he'⟩
    · refine ⟨v, ?_, hv⟩
      have : s < tm.size := by rw [hf.1]; exact hlt
      simp [this]
    · obtain ⟨v', h1, h2⟩ := hf.2 s e' he'
      exact ⟨v', by rw [Array.getElem?_setIfInBounds]; rw [if_neg (fun e => hne e.symm)]; exact h1, h2⟩

theorem FRel.del_tmps {t : Nat} {v : Value} {tm : Array Value} (hf : FRel ρ f tm) : FRel ρ (f.del t) (tm.setIfInBounds t v) := by
  refine ⟨by simp [hf.1, Fr.del], fun s e' he => ?_⟩
  obtain ⟨hne, he'⟩ := T.get_del _ _ _ _ he
  obtain ⟨v', h1, h2⟩ := hf.2 s e' he'
  exact ⟨v', by rw [Array.getElem?_setIfInBounds]; rw [if_neg (fun e => hne e.symm)]; exact h1, h2⟩

theorem setDst_some {f' : Fr} {dst : Option Tmp} {e : EV} {v : Value} (hf : FRel ρ f a.tmps) (hv : VRel ρ e v) (hs : setDst f dst (some e) = some f') : FRel ρ f' (a.put dst v).tmps := by
  cases dst with
  | none => cases hs; exact hf
  | some d => exact hf.put_tmps hv hs

theorem setDst_none {f' : Fr} {dst : Option Tmp} (v : Value) (hf : FRel ρ f a.tmps) (hs : setDst f dst none = some f') : FRel ρ f' (a.put dst v).tmps := by
  cases dst with
  | none => cases hs; exact hf
  | some d => cases hs; exact hf.del_tmps

omit [Syms] in
@[simp] theorem put_defers (a : Act) (dst : Option Tmp) (v : Value) : (a.put dst v).defers = a.defers := by cases dst <;> rfl

theorem wanted_rel {ops : Array Oper} {b : Bool} (hf : FRel ρ f a.tmps) (hw : wantedE ops f o = some b) : Region.wanted o (yielded ops a.tmps) = b := by
  unfold wantedE at hw
  unfold Region.wanted
  split at hw
  · rename_i hg; cases hw; rw [hg]
  · rename_i j want hg
    rw [hg]
    split at hw
    · rename_i p hp
      split at hw
      · rename_i d hd
        split at hw
        · rename_i b' hb
          cases hw
          obtain ⟨v, h1, h2⟩ := hf.2 d _ hb
          cases h2
          simp only [yielded, hp, Option.bind_some, hd, h1]
          cases b' <;> cases want <;> rfl
        · rename_i cs hb
          cases hw
          obtain ⟨v, h1, h2⟩ := hf.2 d _ hb
          cases h2
          simp only [yielded, hp, Option.bind_some, hd, h1]
          cases want <;> rfl
        · cases hw
      · cases hw
    · cases hw

omit [Syms] in
/-- No operation that the engine knows is a deferred call. -/
theorem opE_noDefer {nm : Nat} {r : OR} (hx : opE tb h nm f o = some r) : ∀ c, o.op ≠ .defer c := by
  intro c ho
  simp only [opE, ho] at hx
  cases hx

/-- One operation, within code of a plain frame or of a round. -/
theorem op_wp (ht : FnOk P tb) {ex : Ex} (hc : SoundC P tb ex) (hro : SoundR P ex) {ro : Option Nat} {n nm : Nat} {r : OR} {v : Option EV} {h' : EH} {K : Act → World → Prop} {Q : Exit → Act → World → Prop}
    (hf : FRel ρ f a.tmps) (hr : Rel P ρ h w) (hn : ρ nm = none) (hlt : nm < h.next) (hx : opE tb h nm f o = some r) (hw : orWith tb ex h r = some (v, h'))
    (hK : ∀ ρ' v' w', (match v with | some e => VRel ρ' e v' | none => v' = undef) → Rel P ρ' h' w' → Extd (fun m => m = nm ∨ h.next ≤ m) ρ h w ρ' h' w' → K (a.put o.dst v') w') :
    o.wpIn (wideAt ro) n P a w K Q := by
  have hg := opE_sound ht.toTabOk hf hr hn hlt hx
  refine ⟨fun _ _ => trivial, ?_⟩
  rw [Oper.semAt_eq _ _ _ (opE_noDefer hx)]
  cases r with
  | val e h1 =>
    cases hw
    rcases hg with ⟨rfl, v', g1, g2⟩ | ⟨_, ρ', v', w', g1, g2, g3, g4⟩
    · rw [g1]
      exact hK ρ v' w g2 hr (.refl _ _ _ _)
    · rw [g1]
      exact hK ρ' v' w' g2 g3 (g4.weaken fun m hm => .inl hm)
  | skip h1 =>
    cases hw
    obtain ⟨w', g1, g3, g4⟩ := hg
    rw [g1]
    exact hK ρ undef w' rfl g3 (g4.weaken fun m hm => .inl hm)
  | enter g args =>
    simp only [orWith] at hw
    split at hw
    · rename_i v0 h1 hcw
      cases hw
      obtain ⟨args', g1, g2⟩ := hg
      rw [g1]
      rcases hc g args h v0 h' hcw ρ w args' hr g2 with ⟨g3, g4⟩ | ⟨v', w', g3, ρ', g4, g5, g6⟩
      · rw [g3]
        refine ⟨fun hd => (by cases hd), ?_⟩
        refine CallsIn.mono (g4 (n - 1)) fun e w' hq => ?_
        obtain ⟨v', rfl, ρ', q1, q2, q3⟩ := hq
        exact hK ρ' v' w' q1 q2 (q3.weaken fun m hm => .inr hm)
      · rw [g3]
        exact hK ρ' v' w' g4 g5 (g6.weaken fun m hm => .inr hm)
    · cases hw
  | round l args =>
    simp only [orWith] at hw
    split at hw
    · rename_i v0 h1 hcw
      cases hw
      obtain ⟨L, args', g0, g1, g2⟩ := hg
      rw [g1]
      obtain ⟨gf, tmps, asg, bd, g3, g4⟩ := hro l args h v0 h' hcw ρ w L args' g0 hr g2
      rw [g3]
      refine ⟨fun hd => (by cases hd), ?_⟩
      refine RoundIn.mono (g4 (n - 1)) fun e w' hq => ?_
      obtain ⟨v', rfl, ρ', q1, q2, q3⟩ := hq
      exact hK ρ' v' w' q1 q2 (q3.weaken fun m hm => .inr hm)
    · cases hw

omit [Syms] in
theorem wpOpsIn_mono {F : Fence} {n : Nat} {ops : Array Oper} {Q Q' : Exit → Act → World → Prop} (hq : ∀ e a w, Q e a w → Q' e a w) : ∀ (l : List Nat) (a : Act) (w : World), wpOpsIn F n P ops Q l a w → wpOpsIn F n P ops Q' l a w
  | [], a, w, h => hq _ _ _ h
  | i :: rest, a, w, h => by
    simp only [wpOpsIn] at h ⊢
    split
    · rename_i ho
      rw [ho] at h
      exact wpOpsIn_mono hq rest a w h
    · rename_i o ho
      rw [ho] at h
      simp only at h
      split
      · rename_i hw
        rw [if_pos hw] at h
        refine ⟨h.1, ?_⟩
        have h := h.2
        generalize (o.semAt F.round a.eval).run P w = r at *
        cases r with
        | ok x w' =>
          cases x <;> simp only [Oper.uponIn] at h ⊢ <;> first
            | exact wpOpsIn_mono hq rest _ _ h
            | exact h
            | (refine ⟨h.1, CallsIn.mono h.2 fun e w'' he => ?_⟩
               cases e with
               | returned v => exact wpOpsIn_mono hq rest _ _ he
               | panicked c => exact hq _ _ _ he
               | outgrown => exact let ⟨a, w, q⟩ := he; ⟨a, w, hq _ _ _ q⟩)
            | exact ⟨h.1, RowsIn.mono h.2 fun v w'' he => wpOpsIn_mono hq rest _ _ he⟩
            | (refine ⟨h.1, RoundIn.mono h.2 fun e w'' he => ?_⟩
               cases e with
               | returned v => exact wpOpsIn_mono hq rest _ _ he
               | panicked c => exact hq _ _ _ he
               | outgrown => exact let ⟨a, w, q⟩ := he; ⟨a, w, hq _ _ _ q⟩)
        | halt x w' => cases x <;> simp only [Oper.uponIn] at h ⊢ <;> first | exact hq _ _ _ h | exact h
      · rename_i hw
        rw [if_neg hw] at h
        exact ⟨h.1, wpOpsIn_mono hq rest _ _ h.2⟩

/-- A region whose operations go in the order of the text. -/
theorem reg_wp (ht : FnOk P tb) {ex : Ex} (hc : SoundC P tb ex) (hro : SoundR P ex) {ro : Option Nat} {n : Nat} (ops : Array Oper) : ∀ (l : List Oper) (i : Nat) (f : Fr) (h : EH) (x : XR) (ρ : Ren) (a : Act) (w : World),
    ops.toList.drop i = l → regE tb ex ops l f h = x → x ≠ .fail → FRel ρ f a.tmps → Rel P ρ h w →
    wpOpsIn (wideAt ro) n P ops (XPost P ρ h w a.defers x) (List.range' i l.length) a w
  | [], i, f, h, x, ρ, a, w, hl, he, hx, hf, hr => by
    simp only [regE] at he
    subst he
    exact ⟨ρ, f, h, ⟨rfl, rfl⟩, hf, hr, .refl _ _ _ _, .refl _ _ _ _ _⟩
  | o :: l, i, f, h, x, ρ, a, w, hl, he, hx, hf, hr => by
    have ho : ops[i]? = some o := by
      have : (ops.toList.drop i)[0]? = some o := by rw [hl]; rfl
      rw [List.getElem?_drop] at this
      simpa using this
    have hl' : ops.toList.drop (i + 1) = l := by
      have := congrArg (List.drop 1) hl
      rw [List.drop_drop] at this
      simpa using this
    simp only [regE] at he
    split at he
    · rename_i f' h' hone
      have hres := hr.reserve (fun _ => False) (k := h.next + 1) (Nat.le_succ _)
      obtain ⟨hr1, hx1⟩ := hres
      have hnone : ρ h.next = none := by
        cases hq : ρ h.next with
        | none => rfl
        | some L => have := (hr.dom _ _ hq).1; omega
      have hlen : (o :: l).length = l.length + 1 := rfl
      rw [hlen, List.range'_succ]
      simp only [wpOpsIn, ho]
      unfold oneE at hone
      split at hone
      · rename_i hwant
        rw [if_pos (wanted_rel hf hwant)]
        split at hone
        · rename_i r hop
          split at hone
          · rename_i v h1 how
            split at hone
            · rename_i f1 hset
              cases hone
              refine op_wp ht hc hro hf hr1 hnone (by simp) hop how ?_
              intro ρ' v' w' hv hr' hx'
              have hf' : FRel ρ' f' (a.put o.dst v').tmps := by
                cases v with
                | none => exact setDst_none v' (hf.mono hx'.le) hset
                | some e => exact setDst_some (hf.mono hx'.le) hv hset
              have hxx : Extd (h.next ≤ ·) ρ h w ρ' h' w' := hx1.trans hx' (fun _ h => h.elim) (fun m hm => by
                rcases hm with rfl | hm
                · exact Nat.le_refl _
                · exact Nat.le_trans (Nat.le_succ _) hm)
              have := reg_wp (ro := ro) (n := n) ht hc hro ops l (i + 1) f' h' x ρ' (a.put o.dst v') w' hl' he hx hf' hr'
              rw [put_defers] at this
              exact wpOpsIn_mono (fun e a' w'' hq => XPost.trans hxx (DRel.refl _ _ _ _ _) e a' w'' hq) _ _ _ this
            · cases hone
          · cases hone
        · cases hone
      · rename_i hwant
        rw [if_neg (by rw [wanted_rel hf hwant]; exact Bool.false_ne_true)]
        obtain ⟨f1, hset, hq⟩ := map_some hone
        cases hq
        refine ⟨fun _ _ => trivial, ?_⟩
        have := reg_wp (ro := ro) (n := n) ht hc hro ops l (i + 1) _ _ x ρ (a.put o.dst undef) w hl' he hx (setDst_some hf (.tuple [] #[] .nil) hset) hr1
        rw [put_defers] at this
        exact wpOpsIn_mono (fun e a' w'' hq => XPost.trans (hx1.weaken fun _ h => h.elim) (DRel.refl _ _ _ _ _) e a' w'' hq) _ _ _ this
      · cases hone
    · exact absurd he.symm hx

end Go.Eng

namespace Go.Eng
open Go
variable [Syms]

variable {P : Program} {tb : Tab} {ρ : Ren} {h : EH} {w : World} {f : Fr} {a : Act}

/-- What is asked of regions that draw their order. -/
def SoundD (P : Program) (tb : Tab) (ex : Ex) : Prop := ∀ (id : Nat) (ops : Array Oper) (f : Fr) (h : EH) (x : XR), drawE tb ex ops f h = x → x ≠ .fail →
  ∀ (ro : Option Nat) (n : Nat) (ρ : Ren) (a : Act) (w : World), FRel ρ f a.tmps → Rel P ρ h w → (Code.region id ops true).wpIn (wideAt ro) n P (XPost P ρ h w a.defers x) a w

/-! ### Scopes -/

section scope
variable {b : Frame} {k : List Item} {cs : List Frame} {F : Fence} {n : Nat}

omit [Syms] in
theorem stepR_scope {c : Code} : step P (lone (b.atR a (.code (.scope c) :: k)) cs w) = .next (lone (b.atR a (.code c :: .inScope c :: k)) cs w) :=
  step_lone_go (by simp [stepG, stepG.exec, Frame.atR])
omit [Syms] in
theorem stepR_inScope {c : Code} : step P (lone (b.atR a (.inScope c :: k)) cs w) = .next (lone (b.atR a k) cs w) :=
  step_lone_go (by simp [stepG, stepG.exec, Frame.atR])

/-- Code c, run within the scope of b. -/
def inScopeWp (F : Fence) (n : Nat) (P : Program) (b0 c : Code) (Q : Exit → Act → World → Prop) (a : Act) (w : World) : Prop :=
  ∀ (b : Frame) (k : List Item) (cs : List Frame), b.roundOf = F.round → F.fn b.fn → F.room (cs.length + 1 + n) →
    ∃ e a' w', Q e a' w' ∧ ArrivesIn (Machine.fenced P F) P (lone (b.atR a (.code c :: .inScope b0 :: k)) cs w) b k cs e a' w'

omit [Syms] in
theorem wpIn_scope {c : Code} {Q : Exit → Act → World → Prop} (h : inScopeWp F n P c c Q a w) : (Code.scope c).wpIn F n P Q a w := by
  intro b k cs hro hb hr
  obtain ⟨e, a', w', hq, harr⟩ := h b k cs hro hb hr
  exact ⟨e, a', w', hq, .of_steps (.one (fenced_calm hb hr rfl) stepR_scope) harr⟩

/-- The end of a pass through a scope: by a label of its own, the next pass. -/
def scopePost (F : Fence) (n : Nat) (P : Program) (b0 : Code) (Q : Exit → Act → World → Prop) : Exit → Act → World → Prop
  | .goto l, a, w => match findLabel b0 l with
    | some rest => inScopeWp F n P b0 rest Q a w
    | none => Q (.goto l) a w
  | e, a, w => Q e a w

omit [Syms] in
theorem inScope_of_wp {b0 c : Code} {Q : Exit → Act → World → Prop} (h : c.wpIn F n P (scopePost F n P b0 Q) a w) : inScopeWp F n P b0 c Q a w := by
  intro b k cs hro hb hr
  obtain ⟨e, a₁, w₁, hq, harr⟩ := h b (.inScope b0 :: k) cs hro hb hr
  cases e with
  | normal => exact ⟨.normal, a₁, w₁, hq, StepsIn.trans harr (.one (fenced_calm hb hr rfl) stepR_inScope)⟩
  | exit id => exact ⟨_, a₁, w₁, hq, fun k' hk => harr.1 k' (by simp [exitTo, hk]), fun hr' hk => harr.2 hr' (by simp [exitTo, hk])⟩
  | goto l =>
    simp only [scopePost] at hq
    split at hq
    · rename_i rest hl
      obtain ⟨e₂, a₂, w₂, hq₂, harr₂⟩ := hq b k cs hro hb hr
      exact ⟨e₂, a₂, w₂, hq₂, .of_steps (harr.1 _ (by simp [gotoIn, hl])) harr₂⟩
    · rename_i hl
      exact ⟨_, a₁, w₁, hq, fun k' hk => harr.1 k' (by simp [gotoIn, hl, hk]), fun hr' hk => harr.2 hr' (by simp [gotoIn, hl, hk])⟩
  | ret => exact ⟨_, a₁, w₁, hq, harr⟩
  | panic ch => exact ⟨_, a₁, w₁, hq, harr⟩
  | outgrown => exact ⟨_, a₁, w₁, hq, harr⟩
end scope

theorem scope_wp {ex : Ex} (hs : SoundX P ex) (rd : Bool) (b0 : Code) {ro : Option Nat} {n : Nat} : ∀ (fu : Nat) (c : Code) (f : Fr) (h : EH) (x : XR), scopeE ex rd b0 fu c f h = x → x ≠ .fail →
    ∀ (ρ : Ren) (a : Act) (w : World), FRel ρ f a.tmps → Rel P ρ h w → LoopOk ro w → inScopeWp (wideAt ro) n P b0 c (XPost P ρ h w a.defers x) a w
  | 0, c, f, h, x, he, hx => by cases he; exact absurd rfl hx
  | fu + 1, c, f, h, x, he, hx => by
    intro ρ a w hf hr hl
    simp only [scopeE] at he
    have other : ∀ y, ex rd c f h = y → y ≠ .fail → (∀ l f' h', y = .goto l f' h' → findLabel b0 l = none) → y = x → inScopeWp (wideAt ro) n P b0 c (XPost P ρ h w a.defers x) a w := by
      intro y hy hyn hg hyx
      subst hyx
      refine inScope_of_wp (wpIn_mono (hs rd c f h y hy hyn ro n ρ a w hf hr hl) fun e a' w' hq => ?_)
      cases e with
      | goto l =>
        have : findLabel b0 l = none := by
          obtain ⟨ρ', f', h', q1, _⟩ := hq
          cases y with
          | goto l2 f2 h2 => obtain ⟨rfl, _, _⟩ := q1; exact hg _ _ _ rfl
          | _ => exact q1.elim
        simp only [scopePost, this]
        exact hq
      | _ => exact hq
    split at he
    · rename_i l f' h' hex
      split at he
      · rename_i rest hlab
        refine inScope_of_wp (wpIn_mono (hs rd c f h _ hex (by intro e; cases e) ro n ρ a w hf hr hl) fun e a' w' hq => ?_)
        obtain ⟨ρ', f2, h2, q1, q2, q3, q4, q5⟩ := hq
        cases e with
        | goto l2 =>
          obtain ⟨rfl, rfl, rfl⟩ := q1
          simp only [scopePost, hlab]
          have := scope_wp hs rd b0 (ro := ro) (n := n) fu rest f2 h2 x he hx ρ' a' w' q2 q3 (hl.ext q4)
          intro b k cs hro hb hrm
          obtain ⟨e', a'', w'', hq', harr⟩ := this b k cs hro hb hrm
          exact ⟨e', a'', w'', XPost.trans q4 q5 _ _ _ hq', harr⟩
        | _ => exact q1.elim
      · rename_i hlab
        exact other _ hex (by intro e; cases e) (fun l2 f2 h2 e => by cases e; exact hlab) he
    · rename_i hng
      exact other _ rfl (by rw [he]; exact hx) (fun l2 f2 h2 e => absurd e (hng _ _ _)) he

/-! ### Functions -/

theorem initFr_rel {args : List EV} {args' : Array Value} {n : Nat} (ha : VRels ρ args args'.toList) (hn : args.length ≤ n) : FRel ρ (initFr n args) (args' ++ Array.replicate (n - args'.size) undef) := by
  have hl := ha.length
  simp only [Array.length_toList] at hl
  refine ⟨by simp [initFr]; omega, fun t e he => ?_⟩
  obtain ⟨v, h1, h2⟩ := ha.getA (rowOf_get he)
  have hlt := (Array.getElem?_eq_some_iff.1 h1).1
  exact ⟨v, by rw [Array.getElem?_append_left hlt]; exact h1, h2⟩

def resF (tm : Array Value) : ResultVar → Sem Value
  | .tmp t => pure (tm.getD t undef)
  | .cell a t => do loadVar t (← asAddr (tm.getD a undef))

theorem results_rel (ht : TabOk P tb) (hr : Rel P ρ h w) {tm : Array Value} (hf : FRel ρ f tm) : ∀ {l : List ResultVar} {vs : List EV}, resE tb f h l = some vs →
    ∃ vs' : List Value, (l.mapM (resF tm)).run P w = .ok vs' w ∧ VRels ρ vs vs'
  | [], vs, he => by cases he; exact ⟨[], rfl, .nil⟩
  | .tmp t :: l, vs, he => by
    simp only [resE] at he
    split at he
    · rename_i e es h1 h2
      cases he
      obtain ⟨v, g1, g2⟩ := hf.2 t e h1
      obtain ⟨vs', g3, g4⟩ := results_rel ht hr hf h2
      refine ⟨v :: vs', ?_, .cons _ _ _ _ g2 g4⟩
      have g5 : (resF tm (.tmp t)).run P w = .ok v w := by simp [resF, Array.getD_eq_getD_getElem?, g1]
      rw [List.mapM_cons]
      simp only [Sem.run_bind, Sem.run_pure, Result.andThen_ok, g5, g3]
    · cases he
  | .cell c t :: l, vs, he => by
    simp only [resE] at he
    split at he
    · rename_i n off h0
      split at he
      · rename_i e es h1 h2
        cases he
        obtain ⟨v0, g1, g2⟩ := hf.2 c _ h0
        cases g2 with | ptr _ _ L hL => ?_
        obtain ⟨v, g5, g6⟩ := load_rel ht hr h1 hL
        obtain ⟨vs', g3, g4⟩ := results_rel ht hr hf h2
        refine ⟨v :: vs', ?_, .cons _ _ _ _ g6 g4⟩
        have g7 : (resF tm (.cell c t)).run P w = .ok v w := by simp [resF, Array.getD_eq_getD_getElem?, g1, asAddr, g5]
        rw [List.mapM_cons]
        simp only [Sem.run_bind, Sem.run_pure, Result.andThen_ok, g7, g3]
      · cases he
    · cases he

theorem run_results (ht : TabOk P tb) (hr : Rel P ρ h w) {tm : Array Value} (hf : FRel ρ f tm) {fn : Func} {vs : List EV} (he : resE tb f h fn.results.toList = some vs) :
    ∃ v', (results fn tm).run P w = .ok v' w ∧ VRel ρ (retE vs) v' := by
  obtain ⟨vs', h1, h2⟩ := results_rel ht hr hf he
  have hdef : results fn tm = (do let vs ← fn.results.mapM (resF tm); pure (if h : vs.size = 1 then vs[0] else .tuple vs)) := by
    unfold results
    congr 1
  have hrun : (results fn tm).run P w = .ok (if h : vs'.toArray.size = 1 then vs'.toArray[0] else .tuple vs'.toArray) w := by
    rw [hdef, Array.mapM_eq_mapM_toList]
    simp only [Sem.run_bind, Sem.run_map, h1, Result.andThen_ok, Sem.run_pure]
  refine ⟨_, hrun, ?_⟩
  cases h2 with
  | nil => exact .tuple _ _ .nil
  | cons e v es us q1 q2 =>
    cases q2 with
    | nil => exact q1
    | cons e2 v2 es2 us2 q3 q4 =>
      have : ¬ (v :: v2 :: us2).toArray.size = 1 := by simp
      rw [dif_neg this]
      exact .tuple _ _ (by simpa using .cons _ _ _ _ q1 (.cons _ _ _ _ q3 q4))

theorem put_unnamed {ρ0 : Ren} {h0 : EH} {w0 : World} {S : Nat → Prop} {b : Nat} {x y : Obj} (hr : Rel P ρ h w) (hx : Extd S ρ0 h0 w0 ρ h w) (hb : w0.heap.size ≤ b) (hg : w.heap[b]? = some x) (hu : ∀ n o L, h.get n = some o → ρ n = some L → L.b ≠ b) (hnc : ∀ c t f, x ≠ .cells c t f := by intro _ _ _ e; cases e) :
    Rel P ρ h (w.putObj b y) ∧ Extd S ρ0 h0 w0 ρ h (w.putObj b y) := by
  have hsz : (w.putObj b y).heap.size = w.heap.size := World.putObj_size
  have hoth : ∀ k, k ≠ b → (w.putObj b y).heap[k]? = w.heap[k]? := fun k hk => World.putObj_heap_other hk
  refine ⟨⟨fun n o L e1 e2 => ?_, hr.inj, fun n L e => ?_, hr.low, ⟨fun k z e => ?_, hr.pin.free⟩⟩, { hx with os := hx.os, tape := hx.tape, output := hx.output, size := ?_, kept := ?_, loops := ?_ }⟩
  · rw [hoth _ (hu n o L e1 e2)]; exact hr.live n o L e1 e2
  · rw [hsz]; exact hr.dom n L e
  · have hkb : k ≠ b := by
      rintro rfl
      have := hr.pin.at_ _ _ e
      rw [hg] at this
      exact hnc _ _ _ (Option.some.inj this)
    rw [hoth k hkb]; exact hr.pin.at_ k z e
  · rw [hsz]; exact hx.size
  · intro k hk hno
    rw [hoth k (by omega)]; exact hx.kept k hk hno
  · intro k r e
    have : k < w0.heap.size := (Array.getElem?_eq_some_iff.1 e).1
    rw [hoth k (by omega)]; exact hx.loops k r e

theorem leaves_marks {ρ0 : Ren} {h0 : EH} {w0 : World} {S : Nat → Prop} {F : Fence} {n : Nat} {fn : Func} {tm : Array Value} {vs : List EV} {R : Ending → World → Prop} (ht : TabOk P tb) (hf : FRel ρ f tm) (hres : resE tb f h fn.results.toList = some vs) :
    ∀ (bs : List Nat) (w : World), Rel P ρ h w → Extd S ρ0 h0 w0 ρ h w → bs.Nodup → (∀ b ∈ bs, w0.heap.size ≤ b ∧ b < w.heap.size ∧ w.heap[b]? = some (.deferred (some [])) ∧ ∀ n o L, h.get n = some o → ρ n = some L → L.b ≠ b) →
      (∀ v' w', VRel ρ (retE vs) v' → Rel P ρ h w' → Extd S ρ0 h0 w0 ρ h w' → R (.returned v') w') → LeavesInM F n P fn tm R (bs.map markOf) .returning w
  | [], w, hr, hx, _, _, hR => by
    obtain ⟨v', h1, h2⟩ := run_results ht hr hf hres
    exact ⟨v', h1, hR v' w h2 hr hx⟩
  | b :: bs, w, hr, hx, hnd, hb, hR => by
    obtain ⟨h1, h2, h3, h4⟩ := hb b (by simp)
    obtain ⟨r1, r2⟩ := put_unnamed (y := .deferred none) hr hx h1 h3 h4
    rw [List.nodup_cons] at hnd
    refine ⟨by simp, .inl ⟨b, _, rfl, run_takeDeferred h3, ?_⟩⟩
    refine leaves_marks ht hf hres bs _ r1 r2 hnd.2 (fun c hc => ?_) hR
    obtain ⟨g1, g2, g3, g4⟩ := hb c (by simp [hc])
    have hne : c ≠ b := fun e => hnd.1 (e ▸ hc)
    exact ⟨g1, by rw [World.putObj_size]; exact g2, by rw [World.putObj_heap_other hne]; exact g3, g4⟩

theorem call_sound (ht : FnOk P tb) {ex : Ex} (hs : SoundX P ex) : SoundC P tb ex := by
  intro g args h v h' he ρ w args' hr ha
  unfold callWith at he
  split at he
  · rename_i r hi
    exact ht.intr g r hi args h v h' he ρ w args' hr ha
  · split at he
    · rename_i fn hfn
      split at he
      · rename_i c hbody
        cases hn : Nat.ble args.length fn.ntmps with
        | false => rw [hn] at he; cases he
        | true =>
          rw [hn] at he
          simp only [cond_true] at he
          have hle := Nat.le_of_ble_eq_true hn
          refine .inl ⟨ht.enter g fn c hfn hbody _ _, fun n => ?_⟩
          refine callsIn_of_wp_marks (ht.fn g fn hfn) hbody trivial ?_
          have fin : ∀ (f' : Fr) (h2 : EH) (x : XR), ex false c (initFr fn.ntmps args) h = x → (x = .normal f' h2 ∨ x = .ret f' h2) →
              (match resE tb f' h2 fn.results.toList with | some vs => some (retE vs, h2) | none => none) = some (v, h') →
              c.wpIn Fence.wide n P (bodyPostM Fence.wide n P fn fun e w' => ∃ v', e = .returned v' ∧ CPost P ρ h w v h' v' w') { tmps := args' ++ Array.replicate (fn.ntmps - args'.size) undef, defers := [] } w := by
            intro f' h2 x hx hx2 hq
            split at hq
            · rename_i vs hvs
              cases hq
              have hwp := hs false c (initFr fn.ntmps args) h x hx (by rcases hx2 with rfl | rfl <;> (intro e; cases e)) none n ρ { tmps := args' ++ Array.replicate (fn.ntmps - args'.size) undef, defers := [] } w (initFr_rel ha hle) hr (fun b e => by cases e)
              refine wpIn_mono hwp fun e a' w' hpost => ?_
              obtain ⟨ρ', f2, h3, q1, q2, q3, q4, bs, q5, q6, q7⟩ := hpost
              rw [List.append_nil] at q5
              have key : f2 = f' → h3 = h' → LeavesInM Fence.wide n P fn a'.tmps (fun e w' => ∃ v', e = .returned v' ∧ CPost P ρ h w (retE vs) h' v' w') a'.defers .returning w' := by
                rintro rfl rfl
                rw [q5]
                exact leaves_marks ht.toTabOk q2 hvs bs w' q3 q4 q6 q7 fun v' w'' r1 r2 r3 => ⟨v', rfl, ρ', r1, r2, r3⟩
              rcases hx2 with rfl | rfl
              · cases e with
                | normal => obtain ⟨rfl, rfl⟩ := q1; exact key rfl rfl
                | _ => exact q1.elim
              · cases e with
                | ret => obtain ⟨rfl, rfl⟩ := q1; exact key rfl rfl
                | _ => exact q1.elim
            · cases hq
          split at he
          · rename_i f' h2 hx
            exact fin f' h2 _ hx (.inl rfl) he
          · rename_i f' h2 hx
            exact fin f' h2 _ hx (.inr rfl) he
          · cases he
      · split at he
        · rename_i x hext
          exact ht.ext g x hext args h v h' he ρ w args' hr ha
        · cases he
    · cases he

/-! ### Rounds -/

theorem putAll_rel : ∀ {ts : List Tmp} {vs : List EV} {f f' : Fr} {us : List Value} {tm : Array Value}, putAll f ts vs = some f' → FRel ρ f tm → VRels ρ vs us →
    ts.length = us.length ∧ FRel ρ f' ((ts.zip us).foldl (fun tm p => tm.setIfInBounds p.1 p.2) tm)
  | [], [], f, f', _, tm, he, hf, .nil => by cases he; exact ⟨rfl, hf⟩
  | t :: ts, v :: vs, f, f', u :: us, tm, he, hf, .cons _ _ _ _ h1 h2 => by
    simp only [putAll] at he
    split at he
    · rename_i f1 hp
      obtain ⟨g1, g2⟩ := putAll_rel he (hf.put_tmps h1 hp) h2
      exact ⟨by simp [g1], by simpa using g2⟩
    · cases he

theorem round_sound {ex : Ex} (hs : SoundX P ex) : SoundR P ex := by
  intro l args h v h' he ρ w L args' hL hr ha
  unfold roundWith at he
  split at he
  · rename_i pe0 f ps asg bd hg
    split at he
    · rename_i f0 hput
      obtain ⟨r, q1, q2, q3, q4, q5, q6, q7⟩ := hr.live l _ L hg hL
      subst q4 q5 q6
      obtain ⟨g1, g2⟩ := putAll_rel hput q7 ha
      have hsz : args'.size = r.params.size := by simpa using g1.symm
      have hfr : FRel ρ f0 ((r.params.zip args').foldl (fun tmps (t, a) => tmps.setIfInBounds t a) r.tmps) := by
        rw [← Array.foldl_toList, Array.toList_zip]
        exact g2
      refine ⟨r.fn, _, r.assign, r.body, run_yield q1 hsz, fun n => ?_⟩
      split at he
      · rename_i f1 h1 hx1
        split at he
        · rename_i pe fl ps1 asg1 bd1 hg1
          refine roundIn_of_wpIn trivial ?_
          have hw1 := hs true r.assign f0 h _ hx1 (by intro e; cases e) (some L.b) n ρ { tmps := (r.params.zip args').foldl (fun tmps (t, a) => tmps.setIfInBounds t a) r.tmps, defers := [] } w hfr hr (fun b e => by cases e; exact ⟨r, q1⟩)
          refine wpIn_mono hw1 fun e a1 w1 hp => ?_
          obtain ⟨ρ1, f2, h2, p1, p2, p3, p4, p5⟩ := hp
          cases e with
          | normal =>
            obtain ⟨rfl, rfl⟩ := p1
            have hL1 := p4.le _ _ hL
            obtain ⟨r1, s1, s2, s3, s4, s5, s6, s7⟩ := p3.live l _ L hg1 hL1
            refine ⟨_, run_beginRound s1 s2, ?_⟩
            obtain ⟨t1, t2⟩ := p3.turn (o' := .loop .busy pe fl ps1 asg1 bd1) (x := .loop { r1 with state := .busy }) (fun m => h.next ≤ m) hg1 hL1 (turned_setObj s1) ⟨_, rfl, rfl, s3, s4, s5, s6, s7⟩
            have hlk : LoopOk (some L.b) (w1.putObj L.b (.loop { r1 with state := .busy })) := fun b e => by
              cases e
              exact ⟨_, World.putObj_heap_same (Array.getElem?_eq_some_iff.1 s1).1⟩
            have fin : ∀ (j : Option Code) (f3 : Fr) (h3 : EH) (ρ3 : Ren) (w3 : World), Rel P ρ3 h3 w3 → Extd (h.next ≤ ·) ρ h w ρ3 h3 w3 → finE l j h3 = some (v, h') →
                ∃ v' w', (Instr.endRound L.b j).run P w3 = .ok v' w' ∧ ∃ v2, Ending.returned v' = .returned v2 ∧ CPost P ρ h w v h' v2 w' := by
              intro j f3 h3 ρ3 w3 u1 u2 u3
              unfold finE at u3
              split at u3
              · rename_i pe3 fl3 ps3 asg3 bd3 hg3
                cases u3
                have hL3 := u2.le _ _ hL
                obtain ⟨r3, x1, x2, x3, x4, x5, x6, x7⟩ := u1.live l _ L hg3 hL3
                obtain ⟨y1, y2⟩ := u1.turn (o' := .loop (if j.isNone then .ready else .done) j fl3 ps3 asg3 bd3) (x := .loop { r3 with state := if j.isNone then .ready else .done, pending := j }) (fun m => h.next ≤ m) hg3 hL3 (turned_setObj x1) ⟨_, rfl, rfl, rfl, x4, x5, x6, x7⟩
                exact ⟨_, _, run_endRound j x1, _, rfl, ρ3, .bool _, y1, u2.trans y2 (fun _ h => h) (fun _ h => h)⟩
              · cases u3
            have hbody : ∀ x, ex true r.body f2 (h2.set l (.loop .busy pe fl ps1 asg1 bd1)) = x → x ≠ .fail → (match x with
                | .normal _ h3 => finE l none h3
                | .exit id _ h3 => finE l (some (.exit id)) h3
                | .goto g _ h3 => finE l (some (.goto g)) h3
                | .ret _ h3 => finE l (some .ret) h3
                | .fail => none) = some (v, h') → r.body.wpIn (Fence.wide.inRound L.b) n P (roundPost P L.b fun e w' => ∃ v', e = .returned v' ∧ CPost P ρ h w v h' v' w') a1 (w1.putObj L.b (.loop { r1 with state := .busy })) := by
              intro x hx hxf hfin
              have hwb := hs true r.body f2 _ x hx hxf (some L.b) n ρ1 a1 (w1.putObj L.b (.loop { r1 with state := .busy })) p2 t1 hlk
              refine wpIn_mono hwb fun e a3 w3 hp3 => ?_
              obtain ⟨ρ3, f3, h3, z1, z2, z3, z4, z5⟩ := hp3
              have hext : Extd (h.next ≤ ·) ρ h w ρ3 h3 w3 := p4.trans (t2.trans z4 (fun _ h => h) (fun m hm => Nat.le_trans p4.next hm)) (fun _ h => h) (fun _ h => h)
              cases x with
              | fail => exact absurd rfl hxf
              | normal f4 h4 => cases e with
                | normal => obtain ⟨rfl, rfl⟩ := z1; exact fin none f3 h3 ρ3 w3 z3 hext hfin
                | _ => exact z1.elim
              | exit i f4 h4 => cases e with
                | exit j => obtain ⟨rfl, rfl, rfl⟩ := z1; exact fin (some (.exit _)) f3 h3 ρ3 w3 z3 hext hfin
                | _ => exact z1.elim
              | goto i f4 h4 => cases e with
                | goto j => obtain ⟨rfl, rfl, rfl⟩ := z1; exact fin (some (.goto _)) f3 h3 ρ3 w3 z3 hext hfin
                | _ => exact z1.elim
              | ret f4 h4 => cases e with
                | ret => obtain ⟨rfl, rfl⟩ := z1; exact fin (some .ret) f3 h3 ρ3 w3 z3 hext hfin
                | _ => exact z1.elim
            refine hbody _ rfl ?_ he
            intro e
            rw [e] at he
            cases he
          | _ => exact p1.elim
        · cases he
      · cases he
    · cases he
  · cases he

end Go.Eng

namespace Go.Eng
open Go
variable [Syms]

variable {P : Program} {tb : Tab} {ρ : Ren} {h : EH} {w : World} {f : Fr} {a : Act}

theorem xr_normal {ds : List Deferred} (hf : FRel ρ f a.tmps) (hr : Rel P ρ h w) (hd : a.defers = ds) : XPost P ρ h w ds (.normal f h) .normal a w :=
  ⟨ρ, f, h, ⟨rfl, rfl⟩, hf, hr, .refl _ _ _ _, by rw [hd]; exact .refl _ _ _ _ _⟩

theorem dom_next (hr : Rel P ρ h w) : ρ h.next = none := by
  cases hq : ρ h.next with
  | none => rfl
  | some L => have := (hr.dom _ _ hq).1; omega

/-- A block that no name is of. -/
theorem Rel.push (S : Nat → Prop) (hr : Rel P ρ h w) (o : Obj) : Rel P ρ h (w.alloc o) ∧ Extd S ρ h w ρ h (w.alloc o) := by
  have old : ∀ k, k < w.heap.size → (w.alloc o).heap[k]? = w.heap[k]? := fun k hk => by
    show (w.heap.push o)[k]? = _
    rw [Array.getElem?_push, if_neg (by omega)]
  have hsz : (w.alloc o).heap.size = w.heap.size + 1 := World.size_alloc _ _
  refine ⟨⟨fun n o' L e1 e2 => ?_, hr.inj, fun n L e => ?_, hr.low, hr.pin.kept old⟩, ⟨ρ.le_refl, Nat.le_refl _, fun _ _ e => .inl e, rfl, rfl, rfl, by rw [hsz]; omega, fun b hb _ => old b hb, fun _ o e => .inl ⟨o, e⟩, fun b r e => ⟨r, by rw [old b (Array.getElem?_eq_some_iff.1 e).1]; exact e⟩, fun n o' L e1 e2 _ => ⟨n, o', L, e1, e2, rfl⟩⟩⟩
  · rw [old _ (hr.dom n L e2).2]; exact hr.live n o' L e1 e2
  · have := hr.dom n L e; exact ⟨this.1, by rw [hsz]; omega⟩

theorem seq_wp {F : Fence} {n : Nat} {c1 c2 : Code} {ds : List Deferred} {x1 x : XR} (h1 : c1.wpIn F n P (XPost P ρ h w ds x1) a w)
    (hn : ∀ f' h', x1 = .normal f' h' → ∀ ρ' a' w', FRel ρ' f' a'.tmps → Rel P ρ' h' w' → Extd (h.next ≤ ·) ρ h w ρ' h' w' → c2.wpIn F n P (XPost P ρ' h' w' a'.defers x) a' w')
    (ho : (∀ f' h', x1 ≠ .normal f' h') → x1 = x) : (Code.seq c1 c2).wpIn F n P (XPost P ρ h w ds x) a w := by
  refine wpIn_seq (wpIn_mono h1 fun e a' w' hq => ?_)
  obtain ⟨ρ', f', h', q1, q2, q3, q4, q5⟩ := hq
  cases x1 with
  | normal f1 h1' =>
    cases e with
    | normal =>
      obtain ⟨rfl, rfl⟩ := q1
      exact wpIn_mono (hn f' h' rfl ρ' a' w' q2 q3 q4) fun e a'' w'' hq => XPost.trans q4 q5 e a'' w'' hq
    | _ => exact q1.elim
  | fail => cases e <;> exact q1.elim
  | exit i f1 h1' =>
    have := ho (fun _ _ e => by cases e)
    subst this
    cases e with
    | exit j => exact ⟨ρ', f', h', q1, q2, q3, q4, q5⟩
    | _ => exact q1.elim
  | goto i f1 h1' =>
    have := ho (fun _ _ e => by cases e)
    subst this
    cases e with
    | goto j => exact ⟨ρ', f', h', q1, q2, q3, q4, q5⟩
    | _ => exact q1.elim
  | ret f1 h1' =>
    have := ho (fun _ _ e => by cases e)
    subst this
    cases e with
    | ret => exact ⟨ρ', f', h', q1, q2, q3, q4, q5⟩
    | _ => exact q1.elim

/-- Code c, run within the loop of c. -/
def inLoopWp (F : Fence) (n : Nat) (P : Program) (c : Code) (Q : Exit → Act → World → Prop) (a : Act) (w : World) : Prop :=
  ∀ (b : Frame) (k : List Item) (cs : List Frame), b.roundOf = F.round → F.fn b.fn → F.room (cs.length + 1 + n) →
    ∃ e a' w', Q e a' w' ∧ ArrivesIn (Machine.fenced P F) P (lone (b.atR a (.code c :: .inLoop c :: k)) cs w) b k cs e a' w'

omit [Syms] in
theorem wpIn_loop' {F : Fence} {n : Nat} {c : Code} {Q : Exit → Act → World → Prop} (h : inLoopWp F n P c Q a w) : (Code.loop c).wpIn F n P Q a w := by
  intro b k cs hro hb hr
  obtain ⟨e, a', w', hq, harr⟩ := h b k cs hro hb hr
  exact ⟨e, a', w', hq, .of_steps (.one (fenced_calm hb hr rfl) stepR_loop) harr⟩

omit [Syms] in
theorem inLoop_of_wp {F : Fence} {n : Nat} {c : Code} {Q : Exit → Act → World → Prop} (h1 : c.wpIn F n P (Exit.then (inLoopWp F n P c Q) Q) a w) : inLoopWp F n P c Q a w := by
  intro b k cs hro hb hr
  obtain ⟨e, a₁, w₁, hq, harr⟩ := h1 b (.inLoop c :: k) cs hro hb hr
  cases e with
  | normal =>
    obtain ⟨e₂, a₂, w₂, hq₂, harr₂⟩ := hq b k cs hro hb hr
    exact ⟨e₂, a₂, w₂, hq₂, .of_steps (StepsIn.trans harr (.one (fenced_calm hb hr rfl) stepR_inLoop)) harr₂⟩
  | exit id => exact ⟨_, a₁, w₁, hq, .pass (x := .inLoop c) rfl (fun _ _ => .inl (by simp)) harr⟩
  | goto l => exact ⟨_, a₁, w₁, hq, .pass (x := .inLoop c) rfl (fun _ _ => .inl (by simp)) harr⟩
  | ret => exact ⟨_, a₁, w₁, hq, .pass (x := .inLoop c) rfl (fun _ _ => .inl (by simp)) harr⟩
  | panic ch => exact ⟨_, a₁, w₁, hq, .pass (x := .inLoop c) rfl (fun _ _ => .inl (by simp)) harr⟩
  | outgrown => exact ⟨_, a₁, w₁, hq, .pass (x := .inLoop c) rfl (fun _ _ => .inl (by simp)) harr⟩

omit [Syms] in
theorem inLoop_mono {F : Fence} {n : Nat} {c : Code} {Q Q' : Exit → Act → World → Prop} (h : inLoopWp F n P c Q a w) (hq : ∀ e a w, Q e a w → Q' e a w) : inLoopWp F n P c Q' a w :=
  fun b k cs hro hb hr => let ⟨e, a', w', q, r⟩ := h b k cs hro hb hr; ⟨e, a', w', hq _ _ _ q, r⟩

theorem loop_fuel {N : Nat} (hs : ∀ m, m < N → SoundX P (exec tb m)) (rd : Bool) (c : Code) {ro : Option Nat} {n : Nat} : ∀ (m : Nat), m ≤ N → ∀ (f : Fr) (h : EH) (x : XR), exec tb m rd (.loop c) f h = x → x ≠ .fail →
    ∀ (ρ : Ren) (a : Act) (w : World), FRel ρ f a.tmps → Rel P ρ h w → LoopOk ro w → inLoopWp (wideAt ro) n P c (XPost P ρ h w a.defers x) a w
  | 0, _, f, h, x, he, hx => by cases he; exact absurd rfl hx
  | m + 1, hm, f, h, x, he, hx => by
    intro ρ a w hf hr hl
    simp only [exec] at he
    have other : ∀ y, exec tb m rd c f h = y → (∀ f' h', y ≠ .normal f' h') → y = x → inLoopWp (wideAt ro) n P c (XPost P ρ h w a.defers x) a w := by
      intro y hy hyn hyx
      subst hyx
      refine inLoop_of_wp (wpIn_mono (hs m hm rd c f h y hy hx ro n ρ a w hf hr hl) fun e a' w' hq => ?_)
      cases e with
      | normal =>
        obtain ⟨ρ', f', h', q1, _⟩ := hq
        cases y with
        | normal f2 h2 => exact absurd rfl (hyn _ _)
        | _ => exact q1.elim
      | _ => exact hq
    split at he
    · rename_i f' h' hex
      refine inLoop_of_wp (wpIn_mono (hs m hm rd c f h _ hex (by intro e; cases e) ro n ρ a w hf hr hl) fun e a' w' hq => ?_)
      obtain ⟨ρ', f2, h2, q1, q2, q3, q4, q5⟩ := hq
      cases e with
      | normal =>
        obtain ⟨rfl, rfl⟩ := q1
        exact inLoop_mono (loop_fuel hs rd c (ro := ro) (n := n) m (Nat.le_of_succ_le hm) f2 h2 x he hx ρ' a' w' q2 q3 (hl.ext q4)) fun e a'' w'' hq => XPost.trans q4 q5 e a'' w'' hq
      | _ => exact q1.elim
    · rename_i hnn
      exact other _ rfl (fun f' h' e => hnn f' h' e) he

/-- A range over a function. -/
theorem range_wp (ht : FnOk P tb) {ex : Ex} (hc : SoundC P tb ex) {_rd : Bool} {g : Operand} {ps : Array Tmp} {asg bd : Code} {ro : Option Nat} {n : Nat} {k : FuncId} {cap : List EV} {v : EV} {h' : EH} {st : LoopState} {pe : Option Code} {fl : Fr} {ps' : List Tmp} {asg' bd' : Code} {x : XR}
    (hg : ev f g = some (.func (.func k) [] cap)) {fn0 : Func} (hfn : tb.fn k = some fn0) (hbody : fn0.body.isSome = true)
    (hcall : callWith tb ex k (.func (.yield h.next) [] [] :: cap) ⟨T.set deep h.objs h.next (.loop .ready none f ps.toList asg bd), h.next + 1⟩ = some (v, h'))
    (hgl : h'.get h.next = some (.loop st pe fl ps' asg' bd')) (hst : st ≠ .busy)
    (hx : (pe = none ∧ x = .normal f (h'.set h.next (.loop .exhausted pe fl ps' asg' bd'))) ∨ (∃ i, pe = some (.exit i) ∧ x = .exit i f (h'.set h.next (.loop .exhausted pe fl ps' asg' bd'))) ∨ (pe = some .ret ∧ x = .ret f (h'.set h.next (.loop .exhausted pe fl ps' asg' bd'))))
    (hf : FRel ρ f a.tmps) (hr : Rel P ρ h w) (hl : LoopOk ro w) : (Code.rangeFunc g ps asg bd).wpIn (wideAt ro) n P (XPost P ρ h w a.defers x) a w := by
  have hgr := ev_rel hf hg
  generalize hgv : a.eval g = gv at hgr
  cases hgr with | func _ _ _ first' cap' hn1 hq1 hq2 => ?_
  have hfirst : first' = #[] := by
    cases hq : first'.toList with
    | nil => exact Array.toList_eq_nil_iff.1 hq
    | cons _ _ => rw [hq] at hq1; cases hq1
  subst hfirst
  refine wpIn_rangeFunc fun fn _ => ?_
  -- the record, and the marks
  have enter : ∃ (wd : World) (mark : List Deferred) (bs : List Nat) (dd : Nat), (Instr.enterLoop fn a.tmps ps asg bd ro).run P w = .ok (wd.heap.size, mark) (wd.alloc (.loop { state := .ready, pending := none, fn, tmps := a.tmps, params := ps, assign := asg, body := bd, defers := dd })) ∧
      Rel P ρ h wd ∧ Extd (h.next ≤ ·) ρ h w ρ h wd ∧ DRel w a.defers (mark ++ a.defers) ρ h wd := by
    cases ro with
    | none =>
      obtain ⟨r1, r2⟩ := hr.push (h.next ≤ ·) (.deferred (some []))
      have hsz : (w.alloc (.deferred (some []))).heap.size = w.heap.size + 1 := World.size_alloc _ _
      refine ⟨w.alloc (.deferred (some [])), [markOf w.heap.size], [w.heap.size], w.heap.size, ?_, r1, r2, [w.heap.size], rfl, by simp, fun b hb => ?_⟩
      · rw [hsz]; exact run_enterLoop_outer fn a.tmps ps asg bd
      · rw [List.mem_singleton] at hb
        subst hb
        refine ⟨Nat.le_refl _, by rw [hsz]; omega, World.alloc_heap_new _ _, fun n o L e1 e2 e3 => ?_⟩
        have := (hr.dom n L e2).2
        omega
    | some l0 =>
      obtain ⟨r0, hr0⟩ := hl l0 rfl
      exact ⟨w, [], [], r0.defers, run_enterLoop_inner hr0 fn a.tmps ps asg bd, hr, .refl _ _ _ _, .refl _ _ _ _ _⟩
  obtain ⟨wd, mark, _, dd, he, hrd, hxd, hdd⟩ := enter
  have hnone := dom_next hr
  obtain ⟨hrv, hxv⟩ := hrd.reserve (fun _ => False) (k := h.next + 1) (Nat.le_succ _)
  obtain ⟨r1, r2⟩ := hrv.new (nm := h.next) (w' := wd.alloc (.loop { state := .ready, pending := none, fn, tmps := a.tmps, params := ps, assign := asg, body := bd, defers := dd })) (o := .loop .ready none f ps.toList asg bd) (sz := 0) hnone (by simp) rfl rfl rfl rfl
    ⟨_, rfl, rfl, rfl, rfl, rfl, rfl, hf.mono (Ren.le_put hnone)⟩
  have hyl : (ρ.put h.next ⟨wd.heap.size, 0, 0⟩) h.next = some ⟨wd.heap.size, 0, 0⟩ := Ren.put_same _ _ _
  have hargs : VRels (ρ.put h.next ⟨wd.heap.size, 0, 0⟩) (.func (.yield h.next) [] [] :: cap) ((#[] ++ #[Value.func (.yield wd.heap.size) #[] #[]]) ++ cap').toList := by
    have e1 : ((#[] ++ #[Value.func (.yield wd.heap.size) #[] #[]]) ++ cap').toList = .func (.yield wd.heap.size) #[] #[] :: cap'.toList := by simp
    rw [e1]
    exact .cons _ _ _ _ (.yield _ _ hyl) (hq2.mono (Ren.le_put hnone))
  have hcs := hc k _ _ v h' hcall _ _ _ r1 hargs
  have hres : (resolve a.eval (rangeCall g wd.heap.size) 0).run P (wd.alloc (.loop { state := .ready, pending := none, fn, tmps := a.tmps, params := ps, assign := asg, body := bd, defers := dd })) =
      .ok { target := .fn (.func k) cap', args := #[] ++ #[Value.func (.yield wd.heap.size) #[] #[]] } (wd.alloc (.loop { state := .ready, pending := none, fn, tmps := a.tmps, params := ps, assign := asg, body := bd, defers := dd })) := by
    unfold resolve
    simp only [hgv, Deferred.ofValue, Sem.run_pure]
    simp [Act.eval]
  have hx1 : Extd (h.next ≤ ·) ρ h w (ρ.put h.next ⟨wd.heap.size, 0, 0⟩) ⟨T.set deep h.objs h.next (.loop .ready none f ps.toList asg bd), h.next + 1⟩ (wd.alloc (.loop { state := .ready, pending := none, fn, tmps := a.tmps, params := ps, assign := asg, body := bd, defers := dd })) :=
    hxd.trans (hxv.trans r2 (S := (h.next ≤ ·)) (fun _ h => h.elim) (fun m hm => by rw [hm]; exact Nat.le_refl _)) (fun _ h => h) (fun _ h => h)
  rcases hcs with ⟨henter, hcalls⟩ | ⟨v', w', hval, _⟩
  · refine ⟨wd.heap.size, mark, _, _, _, k, _, _, he, hres, fun _ _ => trivial, henter, fun hd => (by cases hd), ?_⟩
    refine CallsIn.mono (hcalls (n - 1)) fun e w3 hp => ?_
    obtain ⟨v3, rfl, ρ3, p1, p2, p3⟩ := hp
    have hL3 := p3.le _ _ hyl
    obtain ⟨r, q1, q2, q3, q4, q5, q6, q7⟩ := p2.live h.next _ _ hgl hL3
    have hend := run_endLoop (P := P) q1 (by rw [q2]; exact hst)
    obtain ⟨t1, t2⟩ := p2.turn (o' := .loop .exhausted pe fl ps' asg' bd') (x := .loop { r with state := .exhausted }) (fun m => h.next ≤ m) hgl hL3 (turned_setObj q1) ⟨_, rfl, rfl, q3, q4, q5, q6, q7⟩
    have hx3 : Extd (h.next ≤ ·) ρ h w ρ3 (h'.set h.next (.loop .exhausted pe fl ps' asg' bd')) (w3.putObj wd.heap.size (.loop { r with state := .exhausted })) :=
      hx1.trans (p3.trans t2 (S := (h.next ≤ ·)) (fun m hm => by have : h.next + 1 ≤ m := hm; omega) (fun _ h => h)) (fun _ h => h) (fun _ h => h)
    have hd3 : DRel w a.defers (mark ++ a.defers) ρ3 (h'.set h.next (.loop .exhausted pe fl ps' asg' bd')) (w3.putObj wd.heap.size (.loop { r with state := .exhausted })) :=
      hdd.keep ((hxv.trans r2 (S := (h.next ≤ ·)) (fun _ h => h.elim) (fun m hm => by rw [hm]; exact Nat.le_refl _)).trans (p3.trans t2 (S := (h.next ≤ ·)) (fun m hm => by have : h.next + 1 ≤ m := hm; omega) (fun _ h => h)) (fun _ h => h) (fun _ h => h))
    have hf3 : FRel ρ3 f a.tmps := hf.mono (Ren.le_trans hx1.le p3.le)
    have t1' : Rel P ρ3 (h'.set h.next (.loop .exhausted pe fl ps' asg' bd')) (w3.putObj wd.heap.size (.loop { r with state := .exhausted })) := t1
    clear t1 t2
    generalize hw4 : w3.putObj wd.heap.size (.loop { r with state := .exhausted }) = w4 at t1' hx3 hd3 hend
    have hend' : (Instr.endLoop wd.heap.size).run P w3 = .ok r.pending w4 := hend
    clear hend hw4
    rw [q3] at hend'
    refine ⟨pe, w4, hend', ?_⟩
    rcases hx with ⟨rfl, rfl⟩ | ⟨i, rfl, rfl⟩ | ⟨rfl, rfl⟩
    · exact ⟨ρ3, f, _, ⟨rfl, rfl⟩, hf3, t1', hx3, hd3⟩
    · exact wpIn_exit ⟨ρ3, f, _, ⟨rfl, rfl, rfl⟩, hf3, t1', hx3, hd3⟩
    · exact wpIn_ret ⟨ρ3, f, _, ⟨rfl, rfl⟩, hf3, t1', hx3, hd3⟩
  · obtain ⟨c0, hc0⟩ := Option.isSome_iff_exists.1 hbody
    rw [ht.enter k fn0 c0 hfn hc0] at hval
    cases hval

theorem exec_step (ht : FnOk P tb) (hD : ∀ ex, SoundC P tb ex → SoundR P ex → SoundD P tb ex) (N : Nat) (ih : ∀ m, m < N → SoundX P (exec tb m)) : SoundX P (exec tb N) := by
  intro rd c f h x he hx ro n ρ a w hf hr hl
  cases N with
  | zero => cases he; exact absurd rfl hx
  | succ N =>
    have hs : SoundX P (exec tb N) := ih N (Nat.lt_succ_self N)
    have hc := call_sound ht hs
    have hR := round_sound (P := P) hs
    cases c with
    | skip => simp only [exec] at he; subst he; exact wpIn_skip (xr_normal hf hr rfl)
    | label l => simp only [exec] at he; subst he; exact wpIn_label (xr_normal hf hr rfl)
    | region id ops draw =>
      cases draw with
      | false =>
        simp only [exec] at he
        refine wpIn_region ?_
        have := reg_wp (ro := ro) (n := n) ht hc hR ops ops.toList 0 f h x ρ a w rfl he hx hf hr
        rw [List.range_eq_range']
        simpa using this
      | true =>
        simp only [exec] at he
        exact hD _ hc hR id ops f h x he hx ro n ρ a w hf hr
    | seq c1 c2 =>
      simp only [exec] at he
      split at he
      · rename_i f' h' h1
        refine seq_wp (hs rd c1 f h _ h1 (by intro e; cases e) ro n ρ a w hf hr hl) (fun f2 h2 e ρ' a' w' q1 q2 q3 => ?_) (fun q => absurd rfl (q _ _))
        cases e
        exact hs rd c2 f' h' x he hx ro n ρ' a' w' q1 q2 (hl.ext q3)
      · rename_i hnn
        refine seq_wp (hs rd c1 f h x he hx ro n ρ a w hf hr hl) (fun f2 h2 e => ?_) (fun _ => rfl)
        subst e
        exact absurd he (hnn _ _)
    | cond c1 c2 c3 =>
      simp only [exec] at he
      split at he
      · rename_i h1
        have := ev_rel hf h1
        generalize hv : a.eval c1 = v at this
        cases this
        exact wpIn_cond_true hv (hs rd c2 f h x he hx ro n ρ a w hf hr hl)
      · rename_i h1
        have := ev_rel hf h1
        generalize hv : a.eval c1 = v at this
        cases this
        exact wpIn_cond_false hv (hs rd c3 f h x he hx ro n ρ a w hf hr hl)
      · exact absurd he.symm hx
    | block id b =>
      simp only [exec] at he
      refine wpIn_block ?_
      split at he
      · rename_i i f' h' h1
        refine wpIn_mono (hs rd b f h _ h1 (by intro e; cases e) ro n ρ a w hf hr hl) fun e a' w' hq => ?_
        obtain ⟨ρ', f2, h2, q1, q2, q3, q4, q5⟩ := hq
        cases e with
        | exit j =>
          obtain ⟨rfl, rfl, rfl⟩ := q1
          simp only [Exit.inBlock]
          cases hb : Nat.beq j id with
          | true =>
            rw [hb] at he
            rw [if_pos (Nat.eq_of_beq_eq_true hb)]
            subst he
            exact ⟨ρ', f2, h2, ⟨rfl, rfl⟩, q2, q3, q4, q5⟩
          | false =>
            rw [hb] at he
            rw [if_neg (Nat.ne_of_beq_eq_false hb)]
            subst he
            exact ⟨ρ', f2, h2, ⟨rfl, rfl, rfl⟩, q2, q3, q4, q5⟩
        | _ => exact q1.elim
      · rename_i hne
        refine wpIn_mono (hs rd b f h x he hx ro n ρ a w hf hr hl) fun e a' w' hq => ?_
        cases e with
        | exit j =>
          obtain ⟨ρ', f2, h2, q1, _⟩ := hq
          cases x with
          | exit i f3 h3 => exact absurd he (hne _ _ _)
          | _ => exact q1.elim
        | _ => exact hq
    | loop b =>
      exact wpIn_loop' (loop_fuel (n := n) (ro := ro) ih rd b (N + 1) (Nat.le_refl _) f h x he hx ρ a w hf hr hl)
    | scope b =>
      simp only [exec] at he
      exact wpIn_scope (scope_wp hs rd b N b f h x he hx ρ a w hf hr hl)
    | goto l => simp only [exec] at he; subst he; exact wpIn_goto ⟨ρ, f, h, ⟨rfl, rfl, rfl⟩, hf, hr, .refl _ _ _ _, .refl _ _ _ _ _⟩
    | exit i => simp only [exec] at he; subst he; exact wpIn_exit ⟨ρ, f, h, ⟨rfl, rfl, rfl⟩, hf, hr, .refl _ _ _ _, .refl _ _ _ _ _⟩
    | ret => simp only [exec] at he; subst he; exact wpIn_ret ⟨ρ, f, h, ⟨rfl, rfl⟩, hf, hr, .refl _ _ _ _, .refl _ _ _ _ _⟩
    | rangeFunc g ps asg bd =>
      simp only [exec] at he
      split at he
      · rename_i k cap hg
        split at he
        · rename_i fn hfn
          cases hb : fn.body.isSome with
          | false => rw [hb] at he; exact absurd he.symm hx
          | true =>
            rw [hb] at he
            simp only [cond_true] at he
            split at he
            · rename_i v h' hcall
              split at he
              · rename_i st pe fl ps' asg' bd' hgl
                split at he
                · exact absurd he.symm hx
                · rename_i hnb
                  refine range_wp (_rd := rd) ht hc hg hfn hb hcall hgl (fun e => hnb e) ?_ hf hr hl
                  split at he
                  · exact .inl ⟨rfl, he.symm⟩
                  · exact .inr (.inl ⟨_, rfl, he.symm⟩)
                  · exact .inr (.inr ⟨rfl, he.symm⟩)
                  · exact absurd he.symm hx
              · exact absurd he.symm hx
            · exact absurd he.symm hx
        · exact absurd he.symm hx
      · exact absurd he.symm hx
    | _ => simp only [exec] at he; exact absurd he.symm hx

/-- What the engine says of code is so. -/
theorem exec_sound (ht : FnOk P tb) (hD : ∀ ex, SoundC P tb ex → SoundR P ex → SoundD P tb ex) : ∀ N, SoundX P (exec tb N) := by
  intro N
  induction N using Nat.strongRecOn with
  | _ N ih => exact exec_step ht hD N ih

end Go.Eng

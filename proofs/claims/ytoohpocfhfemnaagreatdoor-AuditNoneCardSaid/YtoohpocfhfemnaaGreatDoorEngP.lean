/- A part of the proof of AuditNone: a verified interpreter of the model's own code, its soundness, and contracts of the library's functions. Conditions: none. -/
import Derived.Test.YtoohpocfhfemnaaGreatDoorEngN
import Derived.Test.YtoohpocfhfemnaaGreatDoorEngD
import Derived.Test.YtoohpocfhfemnaaGreatDoorEngK
import Derived.Test.YtoohpocfhfemnaaGreatDoorEngM
import Derived.Laws.IdiomCopy
namespace Go.Eng
open Go Go.RowKit
variable [Syms]

variable {P : Program} {ρ : Ren} {h : EH} {w w' : World}

/-! Calls that turn nothing, and hand back no pointers: a contract at the model's level as an intrinsic. -/

theorem Rel.below (hr : Rel P ρ h w) (hb : Below w.heap.size w w') : Rel P ρ h w' where
  live n o L hg hL := by rw [hb.block L.b (hr.dom n L hL).2]; exact hr.live n o L hg hL
  inj := hr.inj
  dom n L hL := ⟨(hr.dom n L hL).1, Nat.lt_of_lt_of_le (hr.dom n L hL).2 hb.size⟩
  low := hr.low
  pin := hr.pin.kept hb.block

theorem cpost_below {v : EV} {v' : Value} (hr : Rel P ρ h w) (hb : Below w.heap.size w w') (hv : VRel ρ v v') : CPost P ρ h w v h v' w' :=
  ⟨ρ, hv, hr.below hb, {
    le := Ren.le_refl _
    next := Nat.le_refl _
    names := fun _ _ e => .inl e
    os := hb.os
    tape := hb.tape
    output := hb.output
    size := hb.size
    kept := fun b hlt _ => hb.block b hlt
    gets := fun _ o e => .inl ⟨o, e⟩
    loops := fun b r e => ⟨r, by
      have hlt : b < w.heap.size := (Array.getElem?_eq_some_iff.1 e).1
      rw [hb.block b hlt]; exact e⟩
    sub := fun n o L hg hL _ => ⟨n, o, L, hg, hL, rfl⟩ }⟩

/-- A function of one text that hands back two numbers. -/
noncomputable def textI (F : ByteArray → Nat × Nat) (args : List EV) (h : EH) : Option (EV × EH) :=
  match args with
  | [.str l] => cond (Nat.ble l.length 1000000) (some (.agg [.int .i64 ((F (bytesOf l)).1 : Int), .int .i64 ((F (bytesOf l)).2 : Int)], h)) none
  | _ => none

theorem textI_ok {F : ByteArray → Nat × Nat} {g : FuncId} (enter : ∀ args w, (callFunc g args).run P w = .ok (.enter g args) w) (hc : ∀ (s : ByteArray) (w : World), s.size ≤ 8796093022207 → Calls P g #[.string s] w fun e w' => e = .returned (.agg #[.int .i64 ((F s).1 : Int), .int .i64 ((F s).2 : Int)]) ∧ Below w.heap.size w w') : IntrOk P g (textI F) := by
  intro args h v h' hx ρ w args' hr ha
  unfold textI at hx
  split at hx
  · rename_i l
    cases hb : Nat.ble l.length 1000000 with
    | false => rw [hb] at hx; cases hx
    | true =>
      rw [hb] at hx
      cases hx
      obtain ⟨al⟩ := args'
      cases ha with
      | cons _ v0 _ vs hv hs =>
        cases hs
        cases hv with
        | str s _ hs =>
          subst hs
          have hle := Nat.le_of_ble_eq_true hb
          rw [ofBytes_length] at hle
          refine .inl ⟨enter _ _, fun nd => callsIn_wide.2 ((hc s w (by omega)).mono fun e w' hq => ?_)⟩
          obtain ⟨rfl, hbw⟩ := hq
          rw [bytesOf_of]
          exact ⟨_, rfl, cpost_below hr hbw (.agg _ _ (.cons _ _ _ _ (.int _ _) (.cons _ _ _ _ (.int _ _) .nil)))⟩
  · cases hx
end Go.Eng

namespace Go.Eng
open Go
variable [Syms]

variable {P : Program} {tb : Tab} {ρ : Ren} {h : EH} {w w' : World}

/-! Functions that defer a closure: the marks go first, then the deferred call. -/

theorem marks_then {ρ0 : Ren} {h0 : EH} {w0 : World} {S : Nat → Prop} {F : Fence} {n : Nat} {fn : Func} {tm : Array Value} {ds0 : List Deferred} {u : FrameMode} {R : Ending → World → Prop} (hu : u ≠ .run) :
    ∀ (bs : List Nat) (w : World), Rel P ρ h w → Extd S ρ0 h0 w0 ρ h w → bs.Nodup → (∀ b ∈ bs, w0.heap.size ≤ b ∧ b < w.heap.size ∧ w.heap[b]? = some (.deferred (some [])) ∧ ∀ n o L, h.get n = some o → ρ n = some L → L.b ≠ b) →
      (∀ w', Rel P ρ h w' → Extd S ρ0 h0 w0 ρ h w' → LeavesInM F n P fn tm R ds0 u w') → LeavesInM F n P fn tm R (bs.map markOf ++ ds0) u w
  | [], w, hr, hx, _, _, hR => hR w hr hx
  | b :: bs, w, hr, hx, hnd, hb, hR => by
    obtain ⟨h1, h2, h3, h4⟩ := hb b (by simp)
    obtain ⟨r1, r2⟩ := put_unnamed (y := .deferred none) hr hx h1 h3 h4
    rw [List.nodup_cons] at hnd
    refine ⟨hu, .inl ⟨b, _, rfl, run_takeDeferred h3, ?_⟩⟩
    refine marks_then hu bs _ r1 r2 hnd.2 (fun c hc => ?_) hR
    obtain ⟨g1, g2, g3, g4⟩ := hb c (by simp [hc])
    have hne : c ≠ b := fun e => hnd.1 (e ▸ hc)
    exact ⟨g1, by rw [World.putObj_size]; exact g2, by rw [World.putObj_heap_other hne]; exact g3, g4⟩

omit [Syms] in
/-- A deferred call of a closure, at the door. -/
theorem leavesM_one {fn : Func} {tm : Array Value} {R : Ending → World → Prop} {n : Nat} {f : FuncId} {cap : Array Value} {u : FrameMode} (hu : u ≠ .run)
    (hi : (invoke (.fn (.func f) cap) #[]).run P w = .ok (.enter f cap) w) (h : CallsDIn Fence.wide (n - 1) P f cap u w fun
      | .returned _, u', w' => LeavesIn Fence.wide n P fn tm R [] (settle u') w'
      | .panicked chain, u', w' => LeavesIn Fence.wide n P fn tm R [] (raised u' chain) w'
      | .outgrown, _, w' => R .outgrown w') :
    LeavesInM Fence.wide n P fn tm R [{ target := .fn (.func f) cap, args := #[] }] u w :=
  ⟨hu, .inr ⟨(fun e => by cases e), _, _, f, cap, rfl, hi, (fun _ _ => trivial), h⟩⟩

omit [Syms] in
theorem Extd.below {S : Nat → Prop} {ρ0 : Ren} {h0 : EH} {w0 : World} (hx : Extd S ρ0 h0 w0 ρ h w) (hb : RowKit.Below w.heap.size w w') : Extd S ρ0 h0 w0 ρ h w' :=
  hx.trans (S2 := fun _ => False) {
    le := Ren.le_refl _
    next := Nat.le_refl _
    names := fun _ _ e => .inl e
    os := hb.os
    tape := hb.tape
    output := hb.output
    size := hb.size
    kept := fun b hlt _ => hb.block b hlt
    gets := fun _ o e => .inl ⟨o, e⟩
    loops := fun b r e => ⟨r, by
      have hlt : b < w.heap.size := (Array.getElem?_eq_some_iff.1 e).1
      rw [hb.block b hlt]; exact e⟩
    sub := fun n o L hg hL _ => ⟨n, o, L, hg, hL, rfl⟩ } (fun _ h => h) (fun _ h => h.elim)

/-- The deferred call of a closure that captured one pointer. -/
def deferOf (g : FuncId) (p : Addr) : Deferred := { target := .fn (.func g) #[.pointer (some p)], args := #[] }

/-- Behind a run that returns: the marks, then the closure, which turns nothing that was. -/
theorem leave_idle (ht : TabOk P tb) {ρ0 : Ren} {h0 : EH} {w0 : World} {S : Nat → Prop} {n : Nat} {fn : Func} {tm : Array Value} {f : Fr} {vs : List EV} {R : Ending → World → Prop} {g : FuncId} {p : Addr}
    (hf : FRel ρ f tm) (hres : resE tb f h fn.results.toList = some vs)
    (hi : ∀ w, (invoke (.fn (.func g) #[.pointer (some p)]) #[]).run P w = .ok (.enter g #[.pointer (some p)]) w)
    (hc : ∀ n w, CallsDIn Fence.wide n P g #[.pointer (some p)] .returning w fun e u' w' => e = .returned (.tuple #[]) ∧ u' = .returning ∧ RowKit.Below w.heap.size w w')
    (bs : List Nat) (w : World) (hr : Rel P ρ h w) (hx : Extd S ρ0 h0 w0 ρ h w) (hnd : bs.Nodup) (hb : ∀ b ∈ bs, w0.heap.size ≤ b ∧ b < w.heap.size ∧ w.heap[b]? = some (.deferred (some [])) ∧ ∀ n o L, h.get n = some o → ρ n = some L → L.b ≠ b)
    (hR : ∀ v' w', VRel ρ (retE vs) v' → Rel P ρ h w' → Extd S ρ0 h0 w0 ρ h w' → R (.returned v') w') :
    LeavesInM Fence.wide n P fn tm R (bs.map markOf ++ [deferOf g p]) .returning w := by
  refine marks_then (fun e => by cases e) bs w hr hx hnd hb fun w1 r1 x1 => leavesM_one (fun e => by cases e) (hi w1) ((hc _ w1).mono ?_)
  rintro e u' w2 ⟨rfl, rfl, hbw⟩
  obtain ⟨v', h1, h2⟩ := run_results ht (r1.below hbw) hf hres
  exact ⟨v', h1, hR v' w2 h2 (r1.below hbw) (x1.below hbw)⟩

/-- A head that is run, with whatever is to hold behind it. -/
theorem sound_seq_q {c1 c2 : Code} {f f1 : Fr} {h1 : EH} {n : Nat} {Q : Exit → Act → World → Prop} {ac : Act} (p : Sound1 P false c1 f h (.normal f1 h1)) (hfr : FRel ρ f ac.tmps) (hr : Rel P ρ h w)
    (k : ∀ ρ' a' w', FRel ρ' f1 a'.tmps → Rel P ρ' h1 w' → Extd (h.next ≤ ·) ρ h w ρ' h1 w' → DRel w ac.defers a'.defers ρ' h1 w' → c2.wpIn Fence.wide n P Q a' w') : (Code.seq c1 c2).wpIn Fence.wide n P Q ac w := by
  refine wpIn_seq (wpIn_mono (p none n ρ ac w hfr hr (fun _ e => by cases e)) fun e a' w' hq => ?_)
  obtain ⟨ρ', f', h', q1, q2, q3, q4, q5⟩ := hq
  cases e with
  | normal =>
    obtain ⟨rfl, rfl⟩ := q1
    exact k ρ' a' w' q2 q3 q4 q5
  | _ => exact q1.elim
end Go.Eng

namespace Go.Eng
open Go
variable [Syms]

variable {P : Program} {tb : Tab}

/-- A closed call's value: in every world, and it turns nothing that was. -/
theorem closed_out (ht : FnOk P tb) {N g kout : Nat} {fn : Func} {c : Code} {v : EV} {args : List EV} {args' : Array Value} (hfn : tb.fn g = some fn) (hbody : fn.body = some c)
    (hrun : okEnd tb fn.results.toList v [] kout (execF tb N false c (initFr fn.ntmps args) ⟨.leaf, 1024⟩) = true) (ha : VRels Ren.none args args'.toList) (hle : args.length ≤ fn.ntmps) (w : World) (hp : ∀ b x, Syms.pin b = some x → w.heap[b]? = some (.cells x.1 x.2.1 x.2.2)) :
    Calls P g args' w fun e w' => ∃ v', e = .returned v' ∧ (∃ ρ', VRel ρ' v v') ∧ RowKit.Below w.heap.size w w' := by
  rw [execF_eq] at hrun
  obtain ⟨f, h1, vs, e, hvs, hv, _⟩ := okEnd_spec hrun
  have hc := calls_sound1 (ρ := Ren.none) (w := w) ht hfn hbody (vs := vs) (sound1_exec ht e (fun e => by cases e)) hvs (Rel.nothing 1024 w hp) (initFr_rel ha hle) 0
  refine (callsIn_wide.1 hc).mono ?_
  rintro e W' ⟨v', rfl, ρ', h1, h2, h3⟩
  rw [hv] at h1
  exact ⟨v', rfl, ⟨ρ', h1⟩, h3.os, h3.tape, h3.output, h3.size, fun k hk => Extd.all_kept h3 k hk⟩

/-- What a write that goes says of the cell. -/
theorem cell_of_write {ρ : Ren} {h h5 : EH} {w : World} {n o : Nat} {v : EV} {L : Loc} (hr : Rel P ρ h w) (hn : ρ n = some L) (hw : h.write n o [v] = some h5) :
    ∃ u, w.cell? ⟨L.b, L.sh + o, none⟩ = some u ∧ w.frozen? ⟨L.b, L.sh + o, none⟩ = false := by
  obtain ⟨c, el, vr, v0, hg, hv0⟩ : ∃ c el vr v0, h.get n = some (.cells c el vr) ∧ c.get o = some v0 := by
    unfold EH.write at hw
    split at hw
    · rename_i c el vr hg
      cases hc : c.get o with
      | none => simp [readFrom, hc] at hw
      | some v0 => exact ⟨c, el, vr, v0, hg, hc⟩
    · cases hw
  obtain ⟨cs, fr, hrow⟩ := hr.row hg hn
  obtain ⟨u, hu, _, _⟩ := hrow.cell o _ hv0
  exact ⟨u, by unfold World.cell?; rw [hrow.heap]; exact hu, frozen_row hrow.heap hrow.free (L.sh + o) (Array.getElem?_eq_some_iff.1 hu).1⟩

/-- A cell is set, in the world and in the engine's heap. -/
theorem set_rel {ρ : Ren} {h h5 : EH} {w : World} {n o : Nat} {v : EV} {v' : Value} {L : Loc} (S : Nat → Prop) (hr : Rel P ρ h w) (hn : ρ n = some L) (hw : h.write n o [v] = some h5) (hv : VRel ρ v v') (h1 : v'.oneCell' = true) :
    Rel P ρ h5 (w.setCell ⟨L.b, L.sh + o, none⟩ v') ∧ Extd S ρ h w ρ h5 (w.setCell ⟨L.b, L.sh + o, none⟩ v') := by
  obtain ⟨w', e, r, x⟩ := write_rel hr S hw hn (.cons _ _ _ _ hv .nil)
  obtain ⟨c, el, vr, v0, hg, hv0⟩ : ∃ c el vr v0, h.get n = some (.cells c el vr) ∧ c.get o = some v0 := by
    unfold EH.write at hw
    split at hw
    · rename_i c el vr hg
      cases hc : c.get o with
      | none => simp [readFrom, hc] at hw
      | some v0 => exact ⟨c, el, vr, v0, hg, hc⟩
    · cases hw
  obtain ⟨cs, fr, hrow⟩ := hr.row hg hn
  obtain ⟨u, hu, _, _⟩ := hrow.cell o _ hv0
  have hlt : L.sh + o < cs.size := (Array.getElem?_eq_some_iff.1 hu).1
  have hc : w.cell? ⟨L.b, L.sh + o, none⟩ = some u := by unfold World.cell?; rw [hrow.heap]; exact hu
  have hz := frozen_row hrow.heap hrow.free (L.sh + o) hlt
  have e2 := run_storeCells_cells (P := P) L.b (L.sh + o) [v'] 0 w (fun j hj => by
    obtain rfl : j = 0 := by simp at hj; omega
    rw [show L.sh + o + 0 + 0 = L.sh + o by omega, hc]; rfl) (fun j hj => by
    obtain rfl : j = 0 := by simp at hj; omega
    rw [show L.sh + o + 0 + 0 = L.sh + o by omega]; exact hz) (fun y hy => by
    obtain rfl : y = v' := by simpa using hy
    exact h1)
  rw [e2] at e
  cases e
  exact ⟨r, x⟩

/-- Heads that are run, with whatever is to hold behind them. -/
theorem runL_q (ht : FnOk P tb) {N n : Nat} {c : Code} {Q : Exit → Act → World → Prop} {f1 : Fr} {h1 : EH} : ∀ (l : List Code) (f : Fr) (h : EH) (ρ : Ren) (ac : Act) (w : World), runL (exec tb N) false l f h = .normal f1 h1 → FRel ρ f ac.tmps → Rel P ρ h w →
    (∀ ρ' a' w', FRel ρ' f1 a'.tmps → Rel P ρ' h1 w' → Extd (h.next ≤ ·) ρ h w ρ' h1 w' → DRel w ac.defers a'.defers ρ' h1 w' → c.wpIn Fence.wide n P Q a' w') → (seqs l c).wpIn Fence.wide n P Q ac w := by
  intro l
  induction l with
  | nil =>
    intro f h ρ ac w e hfr hr k
    cases e
    exact k ρ ac w hfr hr (hr.reserve _ (Nat.le_refl _)).2 (DRel.refl _ _ _ _ _)
  | cons b l ih =>
    intro f h ρ ac w e hfr hr k
    obtain ⟨f', h', e1, e2⟩ := runL_cons e
    refine sound_seq_q (sound1_exec ht e1 (fun e => by cases e)) hfr hr fun ρ' a' w' q1 q2 q3 q4 => ?_
    exact ih f' h' ρ' a' w' e2 q1 q2 fun ρ2 a2 w2 p1 p2 p3 p4 => k ρ2 a2 w2 p1 p2 (q3.trans p3 (fun _ h => h) (fun m hm => Nat.le_trans q3.next hm)) (q4.trans p3 q3.size p4)
end Go.Eng

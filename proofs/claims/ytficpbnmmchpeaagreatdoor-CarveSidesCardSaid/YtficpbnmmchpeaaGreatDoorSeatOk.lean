/- A part of the proof of CarveSides: the program's tables as the interpreter reads them, and the library's functions at this program. Conditions: none. -/
import Derived.Test.YtficpbnmmchpeaaGreatDoorTab
import Derived.Test.YtficpbnmmchpeaaGreatDoorEngJ
import Derived.Test.YtficpbnmmchpeaaGreatDoorEngK
import Derived.Test.YtficpbnmmchpeaaGreatDoorEngI
import Derived.Laws.Externs
namespace Go.Eng
open Go

noncomputable def tb0 : Tab := {
  und := undT.getF
  inf := infT.getF
  fn := fnT.getF
  eqst := fun t => Option.rec false (fun _ => true) (eqT.getF t)
  ext := fun f => cond (Nat.beq f 208) (some .cmp) (cond (Nat.beq f 239) (some .noEscape) (cond (Nat.beq f 240) (some (.makeNoZero 5)) (cond (Nat.beq f 212) (some .count) (cond (Nat.beq f 278) (some .indexByte) (none)))))
  intr := fun _ => none }
end Go.Eng

namespace Go.Eng
open Go
variable [Syms]

omit [Syms] in
theorem run_ext {P : Program} {f : FuncId} {fn : Func} {e : Array Value → Sem Value} (hf : P.funcs[f]? = some fn) (hname : (fn.name == "runtime.NumGoroutine") = false) (hb : fn.body.isNone = true) (hn : Extern.findNext fn = none) (he : Extern.find fn = some e) {args : Array Value} {w w' : World} {v : Value} (hr : (e args).run P w = .ok v w') :
    (callFunc f args).run P w = .ok (.value v) w' := by
  rw [run_callFunc_extern hf hname hb hn he, hr]
  rfl

omit [Syms] in
theorem x208 : Extern.find Go.Proofs.Tryz.f208 = some Extern.BytealgCompare.compare := by kernel_rfl
omit [Syms] in
theorem n208 : Extern.findNext Go.Proofs.Tryz.f208 = none := by kernel_rfl
omit [Syms] in
theorem x239 : Extern.find Go.Proofs.Tryz.f239 = some Extern.AbiNoEscape.same := by kernel_rfl
omit [Syms] in
theorem n239 : Extern.findNext Go.Proofs.Tryz.f239 = none := by kernel_rfl
omit [Syms] in
theorem x240 : Extern.find Go.Proofs.Tryz.f240 = some (Extern.BytealgMakeNoZero.makeNoZero #[3] #[82]) := by kernel_rfl
omit [Syms] in
theorem n240 : Extern.findNext Go.Proofs.Tryz.f240 = none := by kernel_rfl
omit [Syms] in
theorem x212 : Extern.find Go.Proofs.Tryz.f212 = some Extern.BytealgCount.count := by kernel_rfl
omit [Syms] in
theorem n212 : Extern.findNext Go.Proofs.Tryz.f212 = none := by kernel_rfl
omit [Syms] in
theorem x278 : Extern.find Go.Proofs.Tryz.f278 = some Extern.BytealgIndexByte.indexByte := by kernel_rfl
omit [Syms] in
theorem n278 : Extern.findNext Go.Proofs.Tryz.f278 = none := by kernel_rfl

omit [Syms] in
theorem okOpt {b : Bool} {α : Type} {x y : Option α} {v : α} (h : cond b x y = some v) : (b = true ∧ x = some v) ∨ (b = false ∧ y = some v) := by
  cases b with
  | true => exact .inl ⟨rfl, h⟩
  | false => exact .inr ⟨rfl, h⟩

theorem tab0 : TabOk Go.Proofs.Tryz.prog tb0 where
  und t d h := T.ofList_get undT_eq undL_ok (by rw [← T.getF_eq]; exact h)
  inf t i h := by
    have h' : infT.get t = some i := by rw [← T.getF_eq]; exact h
    have := T.ofList_get infT_eq infL_ok h'
    have hlt := (Array.getElem?_eq_some_iff.1 this).1
    unfold Tables.info?
    rw [if_pos hlt]
    exact this
  fn f x h := T.ofList_get fnT_eq fnL_ok (by rw [← T.getF_eq]; exact h)
  eqst t h := by
    have h' : (Option.rec false (fun _ => true) (eqT.getF t) : Bool) = true := h
    rw [T.getF_eq] at h'
    cases hu : eqT.get t with
    | none => rw [hu] at h'; cases h'
    | some u => exact T.ofList_get eqT_eq eqL_ok hu

noncomputable def bodied (l : List (Nat × Func)) : Bool := List.rec true (fun p _ ih => Bool.rec false ih (Bool.rec true (isSomeF (entT.getF p.1)) (isSomeF p.2.body))) l
omit [Syms] in
theorem bodied_all : bodied fnL = true := by kernel_rfl
omit [Syms] in
theorem bodied_in : ∀ {l : List (Nat × Func)}, bodied l = true → AllIn (fun p => ∀ c, p.2.body = some c → ∃ u, entT.get p.1 = some u) l := by
  intro l
  induction l with
  | nil => intro _; trivial
  | cons p l ih =>
    intro h
    have h' : (Bool.rec false (bodied l) (Bool.rec true (isSomeF (entT.getF p.1)) (isSomeF p.2.body)) : Bool) = true := h
    cases hb : (Bool.rec true (isSomeF (entT.getF p.1)) (isSomeF p.2.body) : Bool) with
    | false => rw [hb] at h'; cases h'
    | true =>
      rw [hb] at h'
      refine ⟨fun c hc => ?_, ih h'⟩
      rw [hc, T.getF_eq] at hb
      cases hg : entT.get p.1 with
      | none => rw [hg] at hb; cases hb
      | some u => exact ⟨u, rfl⟩

omit [Syms] in
theorem mixed0 : Go.Proofs.Tryz.prog.follows .mixedOrders = true := by kernel_rfl

omit [Syms] in
theorem enter0 {g : FuncId} {fn : Func} {c : Code} (hf : tb0.fn g = some fn) (hb : fn.body = some c) (args : Array Value) (w : World) : (callFunc g args).run Go.Proofs.Tryz.prog w = .ok (.enter g args) w := by
  have h' : fnT.get g = some fn := by rw [← T.getF_eq]; exact hf
  obtain ⟨u, hu⟩ := T.ofList_get fnT_eq (bodied_in bodied_all) h' c hb
  exact T.ofList_get entT_eq entL_ok hu args w

theorem ok0 : FnOk Go.Proofs.Tryz.prog tb0 where
  toTabOk := tab0
  enter g fn c hf hb args w := enter0 hf hb args w
  ext g x hx args h v h' he ρ w args' hr ha := by
    have hx' : cond (Nat.beq g 208) (some Ext.cmp) (cond (Nat.beq g 239) (some Ext.noEscape) (cond (Nat.beq g 240) (some (Ext.makeNoZero 5)) (cond (Nat.beq g 212) (some Ext.count) (cond (Nat.beq g 278) (some Ext.indexByte) (none))))) = some x := hx
    have fin : ∀ {f : FuncId} {fn : Func} {e : Array Value → Sem Value}, Go.Proofs.Tryz.prog.funcs[f]? = some fn → (fn.name == "runtime.NumGoroutine") = false → fn.body.isNone = true → Extern.findNext fn = none → Extern.find fn = some e → (e = extSem x) → (∀ t, x ≠ .makeNoZero t) → CallOk Go.Proofs.Tryz.prog f args' w (CPost Go.Proofs.Tryz.prog ρ h w v h') := by
      intro f fn e h1 h2 h3 h4 h5 h6 h7
      obtain ⟨v', q1, q2⟩ := ext_sound hr ha he h7
      exact .inr ⟨v', w, run_ext h1 h2 h3 h4 h5 (h6 ▸ q1), q2⟩
    rcases okOpt hx' with ⟨b, e⟩ | ⟨_, hx'⟩
    · obtain rfl := Nat.eq_of_beq_eq_true b
      cases e
      exact fin Go.Proofs.Tryz.func208 (by kernel_rfl) rfl n208 x208 rfl (fun _ e => by cases e)
    rcases okOpt hx' with ⟨b, e⟩ | ⟨_, hx'⟩
    · obtain rfl := Nat.eq_of_beq_eq_true b
      cases e
      exact fin Go.Proofs.Tryz.func239 (by kernel_rfl) rfl n239 x239 rfl (fun _ e => by cases e)
    rcases okOpt hx' with ⟨b, e⟩ | ⟨_, hx'⟩
    · obtain rfl := Nat.eq_of_beq_eq_true b
      cases e
      obtain ⟨v', w', q1, q2⟩ := makeNoZero_sound (ps := #[3]) (rs := #[82]) hr ha rfl (tab0.und 82 _ (by kernel_rfl)) he
      exact .inr ⟨v', w', run_ext Go.Proofs.Tryz.func240 (by kernel_rfl) rfl n240 x240 q1, q2⟩
    rcases okOpt hx' with ⟨b, e⟩ | ⟨_, hx'⟩
    · obtain rfl := Nat.eq_of_beq_eq_true b
      cases e
      exact fin Go.Proofs.Tryz.func212 (by kernel_rfl) rfl n212 x212 rfl (fun _ e => by cases e)
    rcases okOpt hx' with ⟨b, e⟩ | ⟨_, hx'⟩
    · obtain rfl := Nat.eq_of_beq_eq_true b
      cases e
      exact fin Go.Proofs.Tryz.func278 (by kernel_rfl) rfl n278 x278 rfl (fun _ e => by cases e)
    cases hx'
  intr g r h := by cases h
  mixed := mixed0

/-- The engine with intrinsics. -/
noncomputable def withI (i : FuncId → Option (List EV → EH → Option (EV × EH))) : Tab := { tb0 with intr := i }
theorem okI {i : FuncId → Option (List EV → EH → Option (EV × EH))} (hi : ∀ g r, i g = some r → ∀ (args : List EV) (h : EH) (v : EV) (h' : EH), r args h = some (v, h') → ∀ (ρ : Ren) (w : World) (args' : Array Value), Rel Go.Proofs.Tryz.prog ρ h w → VRels ρ args args'.toList → CallOk Go.Proofs.Tryz.prog g args' w (CPost Go.Proofs.Tryz.prog ρ h w v h')) : FnOk Go.Proofs.Tryz.prog (withI i) where
  toTabOk := { und := tab0.und, inf := tab0.inf, fn := tab0.fn, eqst := tab0.eqst }
  enter := ok0.enter
  ext := ok0.ext
  intr := hi
  mixed := mixed0
end Go.Eng

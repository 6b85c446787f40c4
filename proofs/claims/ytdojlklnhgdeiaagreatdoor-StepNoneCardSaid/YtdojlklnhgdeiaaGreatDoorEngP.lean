/- A part of the proof of StepNone: a verified interpreter of the model's own code, its soundness, and contracts of the library's functions. Conditions: none. -/
import Derived.Test.YtdojlklnhgdeiaaGreatDoorEngN
import Derived.Test.YtdojlklnhgdeiaaGreatDoorEngD
import Derived.Test.YtdojlklnhgdeiaaGreatDoorEngM
import Derived.KernelRfl
namespace Go.Eng
open Go Go.RowKit
variable [Syms]

variable {P : Program} {ρ : Ren} {h : EH} {w w' : World}

/-! Calls that turn nothing, and hand back no pointers: a contract at the model's level as an intrinsic. -/

theorem Rel.below (hr : Rel P ρ h w) (hb : Below w.heap.size w w') : Rel P ρ h w' where
  live n o L hg hL := by rw [hb.block L.b (hr.dom n L hL).2]; exact hr.live n o L hg hL
  inj := hr.inj
  dom n L hL := ⟨(hr.dom n L hL).1, Nat.lt_of_lt_of_le (hr.dom n L hL).2 hb.size⟩
  low := hr.low

theorem cpost_below {v : EV} {v' : Value} (hr : Rel P ρ h w) (hb : Below w.heap.size w w') (hv : VRel ρ v v') : CPost P ρ h w v h v' w' :=
  ⟨ρ, hv, hr.below hb, {
    le := Ren.le_refl _
    next := Nat.le_refl _
    names := fun _ _ e => .inl e
    os := hb.os
    tape := hb.tape
    output := hb.output
    size := hb.size
    kept := fun b hlt _ => hb.block b hlt
    gets := fun _ o e => .inl ⟨o, e⟩
    loops := fun b r e => ⟨r, by
      have hlt : b < w.heap.size := (Array.getElem?_eq_some_iff.1 e).1
      rw [hb.block b hlt]; exact e⟩
    sub := fun n o L hg hL _ => ⟨n, o, L, hg, hL, rfl⟩ }⟩

/-- A function of one text that hands back two numbers. -/
noncomputable def textI (F : ByteArray → Nat × Nat) (args : List EV) (h : EH) : Option (EV × EH) :=
  match args with
  | [.str l] => cond (Nat.ble l.length 1000000) (some (.agg [.int .i64 ((F (bytesOf l)).1 : Int), .int .i64 ((F (bytesOf l)).2 : Int)], h)) none
  | _ => none

theorem textI_ok {F : ByteArray → Nat × Nat} {g : FuncId} (enter : ∀ args w, (callFunc g args).run P w = .ok (.enter g args) w) (hc : ∀ (s : ByteArray) (w : World), s.size ≤ 8796093022207 → Calls P g #[.string s] w fun e w' => e = .returned (.agg #[.int .i64 ((F s).1 : Int), .int .i64 ((F s).2 : Int)]) ∧ Below w.heap.size w w') : IntrOk P g (textI F) := by
  intro args h v h' hx ρ w args' hr ha
  unfold textI at hx
  split at hx
  · rename_i l
    cases hb : Nat.ble l.length 1000000 with
    | false => rw [hb] at hx; cases hx
    | true =>
      rw [hb] at hx
      cases hx
      obtain ⟨al⟩ := args'
      cases ha with
      | cons _ v0 _ vs hv hs =>
        cases hs
        cases hv with
        | str s _ hs =>
          subst hs
          have hle := Nat.le_of_ble_eq_true hb
          rw [ofBytes_length] at hle
          refine .inl ⟨enter _ _, fun nd => callsIn_wide.2 ((hc s w (by omega)).mono fun e w' hq => ?_)⟩
          obtain ⟨rfl, hbw⟩ := hq
          rw [bytesOf_of]
          exact ⟨_, rfl, cpost_below hr hbw (.agg _ _ (.cons _ _ _ _ (.int _ _) (.cons _ _ _ _ (.int _ _) .nil)))⟩
  · cases hx
end Go.Eng

namespace Go.Eng
open Go Go.RowKit
variable [Syms]
variable {P : Program} {ρ : Ren} {h : EH} {w w' : World}

/-- A function of a commit with a tree 1 and no parents: one number. -/
noncomputable def commitI (F : ByteArray → ByteArray → Int) (args : List EV) (h : EH) : Option (EV × EH) :=
  match args with
  | [.agg [.int .u64 1, .nilSlice, .str a, .int .i64 _, .str t]] => some (.int .i64 (F (bytesOf a) (bytesOf t)), h)
  | _ => none

theorem commitI_ok {F : ByteArray → ByteArray → Int} {g : FuncId} (enter : ∀ args w, (callFunc g args).run P w = .ok (.enter g args) w)
    (hc : ∀ (a t : ByteArray) (d : Int) (w : World), Calls P g #[.agg #[.int .u64 1, .slice none 0 0, .string a, .int .i64 d, .string t]] w fun e w' => e = .returned (.int .i64 (F a t)) ∧ Below w.heap.size w w') : IntrOk P g (commitI F) := by
  intro args h v h' hx ρ w args' hr ha
  unfold commitI at hx
  split at hx
  · rename_i a d t
    cases hx
    obtain ⟨al⟩ := args'
    cases ha with
    | cons _ v0 _ vs hv hs =>
      cases hs
      cases hv with
      | agg _ cs hcs =>
        obtain ⟨cl⟩ := cs
        cases hcs with
        | cons _ x1 _ _ q1 r1 => cases r1 with
          | cons _ x2 _ _ q2 r2 => cases r2 with
            | cons _ x3 _ _ q3 r3 => cases r3 with
              | cons _ x4 _ _ q4 r4 => cases r4 with
                | cons _ x5 _ _ q5 r5 =>
                  cases r5
                  cases q1
                  cases q2
                  cases q4
                  cases q3 with
                  | str s3 _ hs3 => cases q5 with
                    | str s5 _ hs5 =>
                      subst hs3
                      subst hs5
                      refine .inl ⟨enter _ _, fun nd => callsIn_wide.2 ((hc s3 s5 d w).mono fun e w' hq => ?_)⟩
                      obtain ⟨rfl, hbw⟩ := hq
                      rw [bytesOf_of, bytesOf_of]
                      exact ⟨_, rfl, cpost_below hr hbw (.int _ _)⟩
  · cases hx
end Go.Eng

namespace Go.Eng
open Go Go.RowKit
variable [Syms]
variable {P : Program} {ρ : Ren} {h : EH} {w w' : World}

/-- A function of a row of two texts: one number. -/
noncomputable def twoI (F : ByteArray → ByteArray → Int) (args : List EV) (h : EH) : Option (EV × EH) :=
  match args with
  | [.slice n off 2 _ 1] => match h.get n with
    | some (.cells c _ _) => match c.get off, c.get (off + 1) with
      | some (.str a), some (.str b) => cond (Nat.ble a.length 250) (cond (Nat.ble b.length 250) (some (.int .i64 (F (bytesOf a) (bytesOf b)), h)) none) none
      | _, _ => none
    | _ => none
  | _ => none

theorem twoI_ok {F : ByteArray → ByteArray → Int} {g : FuncId} (enter : ∀ args w, (callFunc g args).run P w = .ok (.enter g args) w)
    (hc : ∀ (a t : ByteArray) (b o c : Nat) (w : World), a.size ≤ 250 → t.size ≤ 250 → w.cell? ⟨b, o, none⟩ = some (.string a) → w.cell? ⟨b, o + 1, none⟩ = some (.string t) → b < w.heap.size → 2 ≤ c → Calls P g #[.slice (some ⟨b, o, none⟩) 2 c] w fun e w' => e = .returned (.int .i64 (F a t)) ∧ Below w.heap.size w w') : IntrOk P g (twoI F) := by
  intro args h v h' hx ρ w args' hr ha
  unfold twoI at hx
  split at hx
  rotate_left
  · cases hx
  rename_i n off cap
  split at hx
  rotate_left
  · cases hx
  rename_i c e vr hg
  split at hx
  rotate_left
  · cases hx
  rename_i a b ga gb
  cases h1 : Nat.ble a.length 250 with
  | false => rw [h1] at hx; cases hx
  | true =>
    cases h2 : Nat.ble b.length 250 with
    | false => rw [h1, h2] at hx; cases hx
    | true =>
      rw [h1, h2] at hx
      cases hx
      have h1 := Nat.le_of_ble_eq_true h1
      have h2 := Nat.le_of_ble_eq_true h2
      obtain ⟨al⟩ := args'
      cases ha with
      | cons _ v0 _ vs hv hs =>
        cases hs
        cases hv with
        | slice _ _ _ _ _ L o C hL hl hcap ho =>
          obtain ⟨cc, fr, hrow⟩ := hr.row hg hL
          obtain ⟨va, ea, ra, _⟩ := hrow.cell off _ ga
          obtain ⟨vb, eb, rb, _⟩ := hrow.cell (off + 1) _ gb
          cases ra with
          | str sa _ hsa => cases rb with
            | str sb _ hsb =>
              subst hsa
              subst hsb
              rw [ofBytes_length] at h1 h2
              have ho2 : o = L.sh + off := by rcases ho with h | h <;> omega
              subst ho2
              have hc0 : w.cell? ⟨L.b, L.sh + off, none⟩ = some (.string sa) := by unfold World.cell?; rw [hrow.heap]; exact ea
              have hc1 : w.cell? ⟨L.b, L.sh + off + 1, none⟩ = some (.string sb) := by unfold World.cell?; rw [hrow.heap]; exact eb
              refine .inl ⟨enter _ _, fun nd => callsIn_wide.2 ((hc sa sb L.b (L.sh + off) C w h1 h2 hc0 hc1 (hr.dom n L hL).2 hl).mono fun e w' hq => ?_)⟩
              obtain ⟨rfl, hbw⟩ := hq
              rw [bytesOf_of, bytesOf_of]
              exact ⟨_, rfl, cpost_below hr hbw (.int _ _)⟩
end Go.Eng

namespace Go.Eng
open Go

/-! Rules for regions that draw their order, over frames and heaps that are variables. -/

variable {tb : Tab} {ex : Ex} {ops : Array Oper} {bef : List Nat} {base i : Nat} {f : Fr} {h h' : EH} {effs : List Nat} {gs : List EH} {rds : List (Nat × Oper × Fr × EV × Nat)} {als : List (Nat × Nat)} {ty : TypeId} {pos : String} {af : Array Edge} {X : Option Dr}

theorem d_pure {t : Tmp} {op : Op} {l : List Oper} {v : EV} {hx : EH} (ht : t < f.n) (hk : kindOf tb op = .pure) (p : opE tb h (base + i) f ⟨some t, op, ty, pos, af, none⟩ = some (.val v hx)) (q : drawAll tb ex ops bef base l (i + 1) ⟨f.wth t v, h, effs, gs, rds, als⟩ = X) :
    drawAll tb ex ops bef base (⟨some t, op, ty, pos, af, none⟩ :: l) i ⟨f, h, effs, gs, rds, als⟩ = X := by
  unfold drawAll drawOne
  simp only [wantedE, p, hk, setDst_put, Fr.put_wth ht]
  exact q
theorem d_read {t : Tmp} {op : Op} {l : List Oper} {v : EV} {hx : EH} (ht : t < f.n) (hk : kindOf tb op = .reader) (p : opE tb h (base + i) f ⟨some t, op, ty, pos, af, none⟩ = some (.val v hx))
    (q : drawAll tb ex ops bef base l (i + 1) ⟨f.wth t v, h, effs, gs, (i, ⟨some t, op, ty, pos, af, none⟩, f, v, effs.length) :: rds, als⟩ = X) :
    drawAll tb ex ops bef base (⟨some t, op, ty, pos, af, none⟩ :: l) i ⟨f, h, effs, gs, rds, als⟩ = X := by
  unfold drawAll drawOne
  simp only [wantedE, p, hk, setDst_put, Fr.put_wth ht]
  exact q
theorem d_alloc {t : Tmp} {op : Op} {l : List Oper} {v : EV} (ht : t < f.n) (hk : kindOf tb op = .alloc) (p : opE tb h (base + i) f ⟨some t, op, ty, pos, af, none⟩ = some (.val v h'))
    (q : drawAll tb ex ops bef base l (i + 1) ⟨f.wth t v, h', effs, gs, rds, (i, effs.length) :: als⟩ = X) :
    drawAll tb ex ops bef base (⟨some t, op, ty, pos, af, none⟩ :: l) i ⟨f, h, effs, gs, rds, als⟩ = X := by
  unfold drawAll drawOne
  simp only [wantedE, p, hk, setDst_put, Fr.put_wth ht]
  exact q
theorem d_call {t : Tmp} {op : Op} {l : List Oper} {v : EV} {g : FuncId} {args : List EV} (ht : t < f.n) (hk : kindOf tb op = .effect) (p : opE tb h (base + i) f ⟨some t, op, ty, pos, af, none⟩ = some (.enter g args)) (c : callWith tb ex g args h = some (v, h'))
    (q : drawAll tb ex ops bef base l (i + 1) ⟨f.wth t v, h', [i], h' :: gs, rds, als⟩ = X) :
    drawAll tb ex ops bef base (⟨some t, op, ty, pos, af, none⟩ :: l) i ⟨f, h, [], gs, rds, als⟩ = X := by
  unfold drawAll drawOne
  simp only [wantedE, p, hk, orWith_enter, c, setDst_put, Fr.put_wth ht]
  exact q
theorem d_store {e : Nat} {op : Op} {l : List Oper} (hk : kindOf tb op = .effect) (p : opE tb h (base + i) f ⟨none, op, ty, pos, af, none⟩ = some (.skip h')) (hb : Nat.testBit (bef.getD i 0) e = true)
    (q : drawAll tb ex ops bef base l (i + 1) ⟨f, h', i :: e :: effs, h' :: gs, rds, als⟩ = X) :
    drawAll tb ex ops bef base (⟨none, op, ty, pos, af, none⟩ :: l) i ⟨f, h, e :: effs, gs, rds, als⟩ = X := by
  unfold drawAll drawOne
  simp only [wantedE, p, hk, hb, orWith_skip, setDst_skip]
  exact q
theorem d_nil {d : Dr} : drawAll tb ex ops bef base [] i d = some d := rfl

theorem x_draw {n k : Nat} {rd : Bool} {d : Dr} (hn : namesOk (Region.before ops).toList ops ops.toList ops.toList 0 = true) (hb : h.next + ops.size ≤ 549755813888)
    (hd : drawAll tb (exec tb n) ops (Region.before ops).toList h.next ops.toList 0 ⟨f, ⟨h.objs, h.next + ops.size⟩, [], [⟨h.objs, h.next + ops.size⟩], [], []⟩ = some d)
    (hc : (d.als.all (fun (i, m) => (d.effs.reverse.drop m).all fun e => Nat.testBit ((Region.before ops).toList.getD e 0) i) && d.rds.all (fun (i, o, f, v, m) => (List.range (d.effs.reverse.length + 1)).all (steadyAt tb (Region.before ops).toList o i f v m d.effs.reverse d.gs.reverse))) = true) :
    exec tb (n + 1) rd (.region k ops true) f h = .normal d.f d.h := by
  rw [exec_draw]
  unfold drawE
  simp only
  rw [hn, Nat.ble_eq_true_of_le hb]
  simp only [Bool.and_self]
  rw [hd]
  simp only
  rw [hc]

def opsOf : Code → Array Oper
  | .region _ o _ => o
  | _ => #[]
end Go.Eng

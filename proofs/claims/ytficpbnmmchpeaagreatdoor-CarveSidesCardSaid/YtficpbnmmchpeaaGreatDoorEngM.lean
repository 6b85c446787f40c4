/- A part of the proof of CarveSides: a verified interpreter of the model's own code, its soundness, and contracts of the library's functions. Conditions: none. -/
import Derived.Test.YtficpbnmmchpeaaGreatDoorEngK
import Derived.Below
namespace Go.Eng
open Go

/-! Steps of the engine over frames and heaps of which little is known. -/

theorem T.get_set_same {α : Type} (fu : Nat) : ∀ (t : T α) (n : Nat) (a : α), n < 2 ^ fu - 1 → (T.set fu t n a).get n = some a := by
  induction fu with
  | zero => intro t n a h; simp at h
  | succ fu ih =>
    intro t n a h
    have hp : 2 ^ (fu + 1) = 2 * 2 ^ fu := by rw [Nat.pow_succ]; omega
    rcases Nat.eq_zero_or_pos n with rfl | hn
    · cases t <;> simp [T.set, T.get]
    · have h0 : Nat.beq n 0 = false := by cases n with | zero => omega | succ n => rfl
      by_cases hm : Nat.mod n 2 = 1
      · have h1 : Nat.beq (Nat.mod n 2) 1 = true := by rw [hm]; rfl
        have hlt : Nat.div n 2 < 2 ^ fu - 1 := by
          have : n % 2 = 1 := hm
          show n / 2 < _
          omega
        cases t <;> simp only [T.set, T.get, h0, h1, cond] <;> exact ih _ _ _ hlt
      · have h1 : Nat.beq (Nat.mod n 2) 1 = false := by
          cases hb : Nat.beq (Nat.mod n 2) 1 with
          | false => rfl
          | true => exact absurd (Nat.eq_of_beq_eq_true hb) hm
        have hlt : Nat.div (Nat.sub n 1) 2 < 2 ^ fu - 1 := by
          have : ¬ n % 2 = 1 := hm
          show (n - 1) / 2 < _
          omega
        cases t <;> simp only [T.set, T.get, h0, h1, cond] <;> exact ih _ _ _ hlt

theorem T.get_set_other {α : Type} (fu : Nat) : ∀ (t : T α) (n m : Nat) (a : α), n < 2 ^ fu - 1 → m ≠ n → (T.set fu t n a).get m = t.get m := by
  induction fu with
  | zero => intro t n m a h; simp at h
  | succ fu ih =>
    intro t n m a h hne
    have hp : 2 ^ (fu + 1) = 2 * 2 ^ fu := by rw [Nat.pow_succ]; omega
    have hb : ∀ x : Nat, Nat.beq x 0 = decide (x = 0) := fun x => by rw [Bool.eq_iff_iff]; simp
    have hb1 : ∀ x : Nat, Nat.beq (Nat.mod x 2) 1 = decide (x % 2 = 1) := fun x => by rw [Bool.eq_iff_iff]; simp; exact Iff.rfl
    have hdiv : ∀ x : Nat, Nat.div x 2 = x / 2 := fun _ => rfl
    have hsub : ∀ x : Nat, Nat.sub x 1 = x - 1 := fun _ => rfl
    have hleaf : ∀ k, (T.leaf : T α).get k = none := fun _ => rfl
    rcases Nat.eq_zero_or_pos n with rfl | hn
    · cases t with
      | leaf => simp only [T.set, T.get, hb, hb1, cond]; simp [hne]; split <;> rfl
      | node l v r => simp only [T.set, T.get, hb, hb1, cond]; simp [hne]
    · have hn0 : ¬ n = 0 := by omega
      by_cases hm : n % 2 = 1
      · have hlt : n / 2 < 2 ^ fu - 1 := by omega
        cases t with
        | leaf =>
          simp only [T.set, hb, hb1, hn0, hm, decide_true, decide_false, cond, T.get, hdiv]
          by_cases h0 : m = 0
          · simp [h0]
          · by_cases h1 : m % 2 = 1
            · simp only [h0, h1, decide_true, decide_false]
              exact ih _ _ _ _ hlt (by omega)
            · simp [h0, h1]
        | node l v r =>
          simp only [T.set, hb, hb1, hn0, hm, decide_true, decide_false, cond, T.get, hdiv, hsub]
          by_cases h0 : m = 0
          · simp [h0]
          · by_cases h1 : m % 2 = 1
            · simp only [h0, h1, decide_true, decide_false]
              exact ih _ _ _ _ hlt (by omega)
            · simp [h0, h1]
      · have hlt : (n - 1) / 2 < 2 ^ fu - 1 := by omega
        cases t with
        | leaf =>
          simp only [T.set, hb, hb1, hn0, hm, decide_false, cond, T.get, hdiv, hsub]
          by_cases h0 : m = 0
          · simp [h0]
          · by_cases h1 : m % 2 = 1
            · simp [h0, h1]
            · simp only [h0, h1, decide_false]
              exact ih _ _ _ _ hlt (by omega)
        | node l v r =>
          simp only [T.set, hb, hb1, hn0, hm, decide_false, cond, T.get, hdiv, hsub]
          by_cases h0 : m = 0
          · simp [h0]
          · by_cases h1 : m % 2 = 1
            · simp [h0, h1]
            · simp only [h0, h1, decide_false]
              exact ih _ _ _ _ hlt (by omega)

/-- A frame with a temporary set. -/
def Fr.wth (f : Fr) (t : Nat) (v : EV) : Fr := ⟨f.n, T.set deep f.t t v⟩
theorem Fr.put_wth {f : Fr} {t : Nat} {v : EV} (h : t < f.n) : f.put t v = some (f.wth t v) := by
  unfold Fr.put
  have : Nat.blt t f.n = true := by simpa [Nat.blt] using Nat.ble_eq_true_of_le h
  rw [this]; rfl
theorem Fr.wth_n {f : Fr} {t : Nat} {v : EV} : (f.wth t v).n = f.n := rfl
theorem Fr.get_wth_same {f : Fr} {t : Nat} {v : EV} (h : t < 1000) : (f.wth t v).get t = some v := T.get_set_same _ _ _ _ (by simp only [deep]; omega)
theorem Fr.get_wth_other {f : Fr} {t s : Nat} {v : EV} (h : t < 1000) (hne : s ≠ t) : (f.wth t v).get s = f.get s := T.get_set_other _ _ _ _ _ (by simp only [deep]; omega) hne

theorem EH.get_set_same {h : EH} {n : Nat} {o : EO} (hn : n < 1000000000000) : (h.set n o).get n = some o := T.get_set_same _ _ _ _ (by simp only [deep]; omega)
theorem EH.get_set_other {h : EH} {n m : Nat} {o : EO} (hn : n < 1000000000000) (hne : m ≠ n) : (h.set n o).get m = h.get m := T.get_set_other _ _ _ _ _ (by simp only [deep]; omega) hne
end Go.Eng

namespace Go.Eng
open Go

variable {tb : Tab} {ex : Ex} {ops : Array Oper} {f : Fr} {h : EH} {n nm : Nat} {rd : Bool} {ty : TypeId} {pos : String} {af : Array Edge} {g : Option (Nat × Bool)} {dst : Option Tmp}

theorem exec_loop {b : Code} : exec tb (n + 1) rd (.loop b) f h = match exec tb n rd b f h with | .normal f' h' => exec tb n rd (.loop b) f' h' | r => r := rfl
theorem exec_seq {a b : Code} : exec tb (n + 1) rd (.seq a b) f h = match exec tb n rd a f h with | .normal f' h' => exec tb n rd b f' h' | r => r := rfl
theorem exec_block {i : Nat} {b : Code} : exec tb (n + 1) rd (.block i b) f h = match exec tb n rd b f h with | .exit j f' h' => cond (Nat.beq j i) (.normal f' h') (.exit j f' h') | r => r := rfl
theorem exec_region {i : Nat} : exec tb (n + 1) rd (.region i ops false) f h = regE tb (exec tb n) ops ops.toList f h := rfl
theorem exec_draw {i : Nat} : exec tb (n + 1) rd (.region i ops true) f h = drawE tb (exec tb n) ops f h := rfl
theorem exec_cond {c : Operand} {a b : Code} : exec tb (n + 1) rd (.cond c a b) f h = match ev f c with | some (.bool true) => exec tb n rd a f h | some (.bool false) => exec tb n rd b f h | _ => .fail := rfl
theorem exec_exit {i : Nat} : exec tb (n + 1) rd (.exit i) f h = .exit i f h := rfl
theorem exec_ret : exec tb (n + 1) rd .ret f h = .ret f h := rfl
theorem exec_skip : exec tb (n + 1) rd .skip f h = .normal f h := rfl

theorem regE_nil : regE tb ex ops [] f h = .normal f h := rfl
theorem regE_cons {op : Op} {l : List Oper} : regE tb ex ops (⟨dst, op, ty, pos, af, none⟩ :: l) f h =
    match opE tb ⟨h.objs, h.next + 1⟩ h.next f ⟨dst, op, ty, pos, af, none⟩ with
    | some r => (match orWith tb ex ⟨h.objs, h.next + 1⟩ r with
      | some (v, h') => (match setDst f dst v with
        | some f' => regE tb ex ops l f' h'
        | none => .fail)
      | none => .fail)
    | none => .fail := by
  show (match oneE tb ex ops ⟨dst, op, ty, pos, af, none⟩ h.next f ⟨h.objs, h.next + 1⟩ with
    | some (f', h') => regE tb ex ops l f' h'
    | none => .fail) = _
  unfold oneE wantedE
  simp only
  cases opE tb ⟨h.objs, h.next + 1⟩ h.next f ⟨dst, op, ty, pos, af, none⟩ with
  | none => rfl
  | some r =>
    simp only
    cases orWith tb ex ⟨h.objs, h.next + 1⟩ r with
    | none => rfl
    | some p =>
      simp only
      cases setDst f dst p.1 <;> rfl

theorem orWith_val {e : EV} {h' : EH} : orWith tb ex h (.val e h') = some (some e, h') := rfl
theorem orWith_skip {h' : EH} : orWith tb ex h (.skip h') = some (none, h') := rfl
theorem setDst_skip {v : Option EV} : setDst f none v = some f := rfl
theorem setDst_put {t : Tmp} {e : EV} : setDst f (some t) (some e) = f.put t e := rfl
theorem orWith_enter {k : FuncId} {args : List EV} : orWith tb ex h (.enter k args) = match callWith tb ex k args h with | some (v, h') => some (some v, h') | none => none := rfl

theorem ev_tmp {t : Tmp} : ev f (.tmp t) = f.get t := rfl
theorem ev_const {v : Value} : ev f (.const v) = conv v := rfl
theorem ev_func {k : FuncId} : ev f (.func k) = some (.func (.func k) [] []) := rfl
theorem conv_int {k : IntKind} {i : Int} : conv (.int k i) = some (.int k i) := rfl
theorem conv_bool {b : Bool} : conv (.bool b) = some (.bool b) := rfl
theorem evs_nil : evs f [] = some [] := rfl
theorem evs_cons {x : Operand} {l : List Operand} : evs f (x :: l) = match ev f x with | some e => (match evs f l with | some es => some (e :: es) | none => none) | none => none := rfl

theorem op_move {x : Operand} : opE tb h nm f ⟨dst, .move x, ty, pos, af, g⟩ = (ev f x).map (.val · h) := rfl
theorem op_assign {x : Operand} : opE tb h nm f ⟨dst, .assign x, ty, pos, af, g⟩ = (ev f x).map (.val · h) := rfl
theorem op_load {t : TypeId} {x : Operand} : opE tb h nm f ⟨dst, .load t x, ty, pos, af, g⟩ = match ev f x with | some (.ptr n off) => (loadE tb h t n off).map (.val · h) | _ => none := rfl
theorem op_store {t : TypeId} {x y : Operand} : opE tb h nm f ⟨dst, .store t x y, ty, pos, af, g⟩ = match ev f x, ev f y with | some (.ptr n off), some v => (storeE tb h t n off v).map .skip | _, _ => none := rfl
theorem op_binOp {op : BinOp} {t u : TypeId} {x y : Operand} : opE tb h nm f ⟨dst, .binOp op t x y u, ty, pos, af, g⟩ = match ev f x, ev f y with | some a, some b => cond (guardE x y a b) ((binE tb op t a b).map (.val · h)) none | _, _ => none := rfl
theorem op_unOp {op : UnOp} {t : TypeId} {x : Operand} : opE tb h nm f ⟨dst, .unOp op t x, ty, pos, af, g⟩ = match ev f x with | some a => (unE op a).map (.val · h) | none => none := rfl
theorem op_extract {x : Operand} {i : Nat} : opE tb h nm f ⟨dst, .extract x i, ty, pos, af, g⟩ = match ev f x with | some (.tuple vs) => (vs[i]?).map (.val · h) | _ => none := rfl
theorem op_convert {s d : TypeId} {x : Operand} : opE tb h nm f ⟨dst, .convert s d x, ty, pos, af, g⟩ = match ev f x with | some a => (match convertE tb h nm s d a with | some (v, h') => some (.val v h') | none => none) | none => none := rfl
theorem op_indexAddr {t : TypeId} {x i : Operand} : opE tb h nm f ⟨dst, .indexAddr t x i, ty, pos, af, g⟩ = match tb.und t, ev f x, ev f i with
    | some (.slice e), some (.slice n off len _ es), some (.int _ k) => if 0 ≤ k ∧ k < len ∧ tb.size e = some es then some (.val (.ptr n (off + k.toNat * es)) h) else none
    | some (.array len e), some (.ptr n off), some (.int _ k) => (match tb.size e with
      | some es => if 0 ≤ k ∧ k < len then some (.val (.ptr n (off + k.toNat * es)) h) else none
      | none => none)
    | _, _, _ => none := rfl
theorem op_fieldAddr {s : TypeId} {x : Operand} {i : Nat} : opE tb h nm f ⟨dst, .fieldAddr s x i, ty, pos, af, g⟩ = match tb.und s, ev f x with
    | some (.struct fs), some (.ptr n off) => (match fs[i]? with
      | some fd => (match tb.size fd.type with
        | some k => if k = 0 then none else some (.val (.ptr n (off + fd.offset)) h)
        | none => none)
      | none => none)
    | _, _ => none := rfl
theorem op_alloc {e : TypeId} : opE tb h nm f ⟨dst, .alloc e, ty, pos, af, g⟩ = match tb.zero e with
    | some z => cond (z.cells.all EV.one && decide (tb.size e = some z.cells.length)) (some (.val (.ptr nm 0) (h.set nm (.cells (rowOf z.cells) e true)))) none
    | none => none := rfl
theorem op_box {e : TypeId} {x : Operand} : opE tb h nm f ⟨dst, .box e x, ty, pos, af, g⟩ = match ev f x with
    | some v => cond (v.cells.all EV.one && decide (tb.size e = some v.cells.length)) (some (.val (.ptr nm 0) (h.set nm (.cells (rowOf v.cells) e true)))) none
    | none => none := rfl
theorem op_build {t : TypeId} {ps : Array (Nat × Operand)} : opE tb h nm f ⟨dst, .build t ps, ty, pos, af, g⟩ = match partsE f ps.toList with | some l => (buildE tb t l).map (.val · h) | none => none := rfl
theorem op_buildSlice {t : TypeId} {len : Nat} {ps : Array (Nat × Operand)} : opE tb h nm f ⟨dst, .buildSlice t len ps, ty, pos, af, g⟩ = match tb.und t with
    | some (.slice e) => (match tb.size e, zeroRow tb e len, partsE f ps.toList with
      | some es, some z, some l => (match fillE (fun i => some (i * es, es)) z l with
        | some cs => if len * es ≤ 2 ^ 24 ∧ cs.all EV.one = true then some (.val (.slice nm 0 len (some len) es) (h.set nm (.cells (rowOf cs) e false))) else none
        | none => none)
      | _, _, _ => none)
    | _ => none := rfl
theorem op_makeSlice {t : TypeId} {l c : Operand} : opE tb h nm f ⟨dst, .makeSlice t l c, ty, pos, af, g⟩ = match tb.und t, ev f l, ev f c with
    | some (.slice e), some (.int _ l), some (.int _ c) => (match tb.size e, tb.inf e with
      | some es, some i => if 0 ≤ l ∧ l ≤ c ∧ c ≤ 1099511627776 ∧ c * i.bytes ≤ 1099511627776 then (match zeroRow tb e c.toNat with
        | some z => some (.val (.slice nm 0 l.toNat (some c.toNat) es) (h.set nm (.cells (rowOf z) e false)))
        | none => none) else none
      | _, _ => none)
    | _, _, _ => none := rfl
theorem op_len {x : Operand} {t : TypeId} : opE tb h nm f ⟨dst, .call ⟨.builtin .len, #[x], #[t]⟩, ty, pos, af, g⟩ = match ev f x with | some a => (lenE tb h t a).map (.val · h) | none => none := by
  show callE1 tb h nm f _ = _
  unfold callE1
  simp only [evs]
  cases ev f x <;> rfl
theorem len_slice {t e : TypeId} {a b c d : Nat} {cp : Option Nat} (hu : tb.und t = some (.slice e)) : lenE tb h t (.slice a b c cp d) = some (.int .i64 c) := by simp [lenE, hu]
theorem len_nil {t e : TypeId} (hu : tb.und t = some (.slice e)) : lenE tb h t .nilSlice = some (.int .i64 0) := by simp [lenE, hu]
theorem op_call {k : FuncId} {xs : Array Operand} {ts : Array TypeId} : opE tb h nm f ⟨dst, .call ⟨.value (.func k), xs, ts⟩, ty, pos, af, g⟩ = match evs f xs.toList with | some args => some (.enter k args) | none => none := by
  show callE1 tb h nm f _ = _
  unfold callE1
  simp only
  cases evs f xs.toList with
  | none => rfl
  | some args => show some (OR.enter k ([] ++ args ++ [])) = _; simp
theorem op_append {x y : Operand} {t u : TypeId} : opE tb h nm f ⟨dst, .call ⟨.builtin .append, #[x, y], #[t, u]⟩, ty, pos, af, g⟩ = match ev f x, ev f y with | some a, some b => builtinE tb h nm .append [t, u] [a, b] | _, _ => none := by
  show callE1 tb h nm f _ = _
  unfold callE1
  simp only [evs]
  cases ev f x with
  | none => rfl
  | some a => cases ev f y <;> rfl

theorem bin_add {k : IntKind} {t : TypeId} {a b : Int} : binE tb .add t (.int k a) (.int k b) = some (.int k (k.wrap (a + b))) := by simp [binE, binInt]
theorem bin_mul {k : IntKind} {t : TypeId} {a b : Int} : binE tb .mul t (.int k a) (.int k b) = some (.int k (k.wrap (a * b))) := by simp [binE, binInt]
theorem bin_lss {k : IntKind} {t : TypeId} {a b : Int} : binE tb .lss t (.int k a) (.int k b) = some (.bool (decide (a < b))) := by simp [binE, binInt]
theorem bin_geq {k : IntKind} {t : TypeId} {a b : Int} : binE tb .geq t (.int k a) (.int k b) = some (.bool (decide (b ≤ a))) := by simp [binE, binInt]
theorem bin_eql {k : IntKind} {t : TypeId} {a b : Int} : binE tb .eql t (.int k a) (.int k b) = some (.bool (decide (a = b))) := by simp [binE, binInt]
theorem bin_xor {k : IntKind} {t : TypeId} {a b : Int} : binE tb .xor t (.int k a) (.int k b) = some (.int k (k.wrap (BitVec.ofInt k.bits a ^^^ BitVec.ofInt k.bits b).toNat)) := by simp [binE, binInt]
theorem guard_int {x y : Operand} {j k : IntKind} {a b : Int} : guardE x y (.int j a) (.int k b) = true := rfl
theorem conv_int_int {s d : TypeId} {D : TypeDesc} {j k : IntKind} {i : Int} (hs : tb.und s = some D) (hd : tb.und d = some (.int k)) : convertE tb h nm s d (.int j i) = some (.int k (k.wrap i), h) := by simp [convertE, hs, hd]
theorem load_one {t : TypeId} {D : TypeDesc} {a b : Nat} (hu : tb.und t = some D) (hd : isAggD D = false) : loadE tb h t a b = h.cell a b := by simp [loadE, hu, hd]
end Go.Eng

namespace Go.Eng
open Go

variable {tb : Tab} {ex : Ex} {ops : Array Oper} {f f1 : Fr} {h h1 h' : EH} {n nm : Nat} {rd : Bool} {ty : TypeId} {pos : String} {af : Array Edge} {X : XR}

/-! Rules by which a run is put together. -/

theorem x_seq {a b : Code} (p : exec tb n rd a f h = .normal f1 h1) (q : exec tb n rd b f1 h1 = X) : exec tb (n + 1) rd (.seq a b) f h = X := by rw [exec_seq, p]; exact q
theorem x_seq_exit {a b : Code} {i : Nat} (p : exec tb n rd a f h = .exit i f1 h1) : exec tb (n + 1) rd (.seq a b) f h = .exit i f1 h1 := by rw [exec_seq, p]
theorem x_seq_ret {a b : Code} (p : exec tb n rd a f h = .ret f1 h1) : exec tb (n + 1) rd (.seq a b) f h = .ret f1 h1 := by rw [exec_seq, p]
theorem x_block {i : Nat} {b : Code} (p : exec tb n rd b f h = .normal f1 h1) : exec tb (n + 1) rd (.block i b) f h = .normal f1 h1 := by rw [exec_block, p]
theorem x_block_exit {i : Nat} {b : Code} (p : exec tb n rd b f h = .exit i f1 h1) : exec tb (n + 1) rd (.block i b) f h = .normal f1 h1 := by
  rw [exec_block, p]
  simp only
  rw [show Nat.beq i i = true from by simp]; rfl
theorem x_region {i : Nat} (p : regE tb (exec tb n) ops ops.toList f h = X) : exec tb (n + 1) rd (.region i ops false) f h = X := p
theorem x_cond_t {c : Operand} {a b : Code} (p : ev f c = some (.bool true)) (q : exec tb n rd a f h = X) : exec tb (n + 1) rd (.cond c a b) f h = X := by rw [exec_cond, p]; exact q
theorem x_cond_f {c : Operand} {a b : Code} (p : ev f c = some (.bool false)) (q : exec tb n rd b f h = X) : exec tb (n + 1) rd (.cond c a b) f h = X := by rw [exec_cond, p]; exact q
theorem x_loop {b : Code} (p : exec tb n rd b f h = .normal f1 h1) (q : exec tb n rd (.loop b) f1 h1 = X) : exec tb (n + 1) rd (.loop b) f h = X := by rw [exec_loop, p]; exact q
theorem x_loop_exit {b : Code} {i : Nat} (p : exec tb n rd b f h = .exit i f1 h1) : exec tb (n + 1) rd (.loop b) f h = .exit i f1 h1 := by rw [exec_loop, p]

theorem r_val {t : Tmp} {op : Op} {l : List Oper} {e : EV} (ht : t < f.n) (p : opE tb ⟨h.objs, h.next + 1⟩ h.next f ⟨some t, op, ty, pos, af, none⟩ = some (.val e h')) (q : regE tb ex ops l (f.wth t e) h' = X) :
    regE tb ex ops (⟨some t, op, ty, pos, af, none⟩ :: l) f h = X := by
  rw [regE_cons, p]
  simp only [orWith_val, setDst_put, Fr.put_wth ht]
  exact q
theorem r_skip {op : Op} {l : List Oper} (p : opE tb ⟨h.objs, h.next + 1⟩ h.next f ⟨none, op, ty, pos, af, none⟩ = some (.skip h')) (q : regE tb ex ops l f h' = X) :
    regE tb ex ops (⟨none, op, ty, pos, af, none⟩ :: l) f h = X := by
  rw [regE_cons, p]
  simp only [orWith_skip, setDst_skip]
  exact q
theorem r_call {t : Tmp} {op : Op} {l : List Oper} {k : FuncId} {args : List EV} {e : EV} (ht : t < f.n) (p : opE tb ⟨h.objs, h.next + 1⟩ h.next f ⟨some t, op, ty, pos, af, none⟩ = some (.enter k args))
    (c : callWith tb ex k args ⟨h.objs, h.next + 1⟩ = some (e, h')) (q : regE tb ex ops l (f.wth t e) h' = X) :
    regE tb ex ops (⟨some t, op, ty, pos, af, none⟩ :: l) f h = X := by
  rw [regE_cons, p]
  simp only [orWith_enter, c, setDst_put, Fr.put_wth ht]
  exact q
theorem r_nil : regE tb ex ops [] f h = .normal f h := rfl
end Go.Eng

namespace Go.Eng
open Go
variable [Syms]

/-! Closed runs in the kernel, and what they say of calls. -/

def Code.at : List Bool → Code → Code
  | [], c => c
  | b :: p, .seq x y => Code.at p (cond b y x)
  | _ :: p, .block _ c => Code.at p c
  | _ :: p, .loop c => Code.at p c
  | _, c => c

noncomputable def bodyOf (f : Func) : Code := match f.body with | some c => c | none => .skip

noncomputable def okRet (t : Nat) (b : Bool) (x : XR) : Bool := XR.rec false (fun _ _ => false) (fun _ _ _ => false) (fun _ _ _ => false) (fun f _ => Option.rec false (fun e => EV.eqb (.bool b) e) (Fr.getF f t)) x
omit [Syms] in
theorem okRet_spec {t : Nat} {b : Bool} {x : XR} (h : okRet t b x = true) : ∃ f hh, x = .ret f hh ∧ f.get t = some (.bool b) := by
  cases x with
  | ret f hh =>
    have h' : (Option.rec false (fun e => EV.eqb (.bool b) e) (Fr.getF f t) : Bool) = true := h
    rw [Fr.getF_eq] at h'
    cases hg : f.get t with
    | none => rw [hg] at h'; cases h'
    | some e => rw [hg] at h'; exact ⟨f, hh, rfl, by rw [hg, EV.eqb_eq _ _ h']⟩
  | _ => cases h

omit [Syms] in
theorem res_tmp {tb : Tab} {f : Fr} {h : EH} {t : Nat} {v : EV} (hg : f.get t = some v) : resE tb f h [.tmp t] = some [v] := by simp [resE, hg]

variable {P : Program} {tb : Tab}

/-- A closed function's whole run: it returns this Bool in every world, and turns nothing that was. -/
theorem closed_of_sound (ht : FnOk P tb) {g t : Nat} {fn : Func} {c : Code} {b : Bool} {f : Fr} {hh : EH} (hfn : tb.fn g = some fn) (hbody : fn.body = some c) (hres : fn.results.toList = [.tmp t])
    (hs : Sound1 P false c (initFr fn.ntmps []) ⟨.leaf, 1024⟩ (.ret f hh)) (hg : f.get t = some (.bool b)) {ρ : Ren} {h : EH} {w : World} {args' : Array Value} (hr : Rel P ρ h w) (ha : VRels ρ [] args'.toList) :
    CallOk P g args' w (CPost P ρ h w (.bool b) h) := by
  have hz : args' = #[] := by
    generalize hl : args'.toList = l at ha
    cases ha
    exact Array.toList_eq_nil_iff.1 hl
  subst hz
  have hc := call_sound1 (ρ := Ren.none) (w := w) (args' := #[]) ht hfn hbody (vs := [.bool b]) hs (by rw [hres]; exact res_tmp hg) (Rel.nothing 1024 w hr.pin.at_) (initFr_rel .nil (Nat.zero_le _))
  exact hc.mono fun v' w' hq => closed_post hr (fun ρ1 u hu => by cases hu; exact .bool _) hq

/-- A closed function as an intrinsic. -/
noncomputable def constI (b : Bool) (args : List EV) (h : EH) : Option (EV × EH) := List.rec (some (.bool b, h)) (fun _ _ _ => none) args

/-- A law's whole run: it returns true, and turns nothing that was. -/
theorem law_of_run (ht : FnOk P tb) {N g t : Nat} {fn : Func} {c : Code} {f0 : Fr} {args : Array Value} (hfn : tb.fn g = some fn) (hbody : fn.body = some c) (hres : fn.results.toList = [.tmp t])
    (hrun : okRet t true (execF tb N false c f0 ⟨.leaf, 1024⟩) = true) (W : World) (hp : ∀ b x, Syms.pin b = some x → W.heap[b]? = some (.cells x.1 x.2.1 x.2.2)) (hf : FRel Ren.none f0 (args ++ Array.replicate (fn.ntmps - args.size) undef)) :
    Calls P g args W fun e W' => e = .returned (.bool true) ∧ RowKit.Below W.heap.size W W' := by
  rw [execF_eq] at hrun
  obtain ⟨f, hh, e, g'⟩ := okRet_spec hrun
  have hc := calls_sound1 (ρ := Ren.none) (w := W) ht hfn hbody (vs := [.bool true]) (sound1_exec ht e (fun e => by cases e)) (by rw [hres]; exact res_tmp g') (Rel.nothing 1024 W hp) hf 0
  refine (callsIn_wide.1 hc).mono ?_
  rintro e W' ⟨v', rfl, ρ', h1, h2, h3⟩
  cases h1
  exact ⟨rfl, h3.os, h3.tape, h3.output, h3.size, fun k hk => Extd.all_kept h3 k hk⟩
end Go.Eng

namespace Go.Eng
open Go
variable [Syms]

variable {P : Program} {tb : Tab} {ρ ρ' : Ren} {h h' hL : EH} {w w' : World} {f fL : Fr}

/-! Long runs in parts: the heads of a body, a state written out, what is left. -/

noncomputable def seqs (l : List Code) (c : Code) : Code := List.rec c (fun a _ ih => .seq a ih) l
def heads : Nat → Code → List Code
  | 0, _ => []
  | n + 1, .seq a b => a :: heads n b
  | _, _ => []
def tail : Nat → Code → Code
  | 0, c => c
  | n + 1, .seq _ b => tail n b
  | _, c => c
omit [Syms] in
theorem seqs_heads : ∀ (n : Nat) (c : Code), seqs (heads n c) (tail n c) = c
  | 0, _ => rfl
  | n + 1, c => by
    cases c <;> first | rfl | skip
    rename_i a b
    show Code.seq a (seqs (heads n b) (tail n b)) = _
    rw [seqs_heads n b]

/-- The heads, one behind the other. -/
noncomputable def runL (ex : Ex) (rd : Bool) (l : List Code) : Fr → EH → XR :=
  List.rec (motive := fun _ => Fr → EH → XR) (fun f h => .normal f h) (fun a _ ih f h => XR.rec .fail (fun f h => ih f h) (fun _ _ _ => .fail) (fun _ _ _ => .fail) (fun _ _ => .fail) (ex rd a f h)) l

/-- A state's heap and frame hold what the lists say. -/
noncomputable def subF (l : List (Nat × EV)) (f : Fr) : Bool := List.rec true (fun p _ ih => Prod.rec (fun t v => Option.rec false (fun e => Bool.rec false ih (EV.eqb v e)) (Fr.getF f t)) p) l
noncomputable def litF (l : List (Nat × EV)) : T EV := List.rec .leaf (fun p _ ih => Prod.rec (fun n o => setP (paOf n) o ih) p) l
omit [Syms] in
theorem litF_get {n : Nat} {o : EV} : ∀ {l : List (Nat × EV)}, (litF l).get n = some o → (n, o) ∈ l := by
  intro l
  induction l with
  | nil => intro h; cases h
  | cons p l ih =>
    intro h
    obtain ⟨m, q⟩ := p
    have h' : (T.set deep (litF l) m q).get n = some o := by rw [← setP_eq]; exact h
    rcases T.get_set _ _ _ _ _ _ h' with ⟨rfl, rfl⟩ | ⟨_, h2⟩
    · exact List.mem_cons_self
    · exact List.mem_cons_of_mem _ (ih h2)
omit [Syms] in
theorem subF_mem {f : Fr} {t : Nat} {v : EV} : ∀ {l : List (Nat × EV)}, subF l f = true → (t, v) ∈ l → f.get t = some v := by
  intro l
  induction l with
  | nil => intro _ h; cases h
  | cons p l ih =>
    intro hq hm
    obtain ⟨m, q⟩ := p
    have h' : (Option.rec false (fun e => Bool.rec false (subF l f) (EV.eqb q e)) (Fr.getF f m) : Bool) = true := hq
    rw [Fr.getF_eq] at h'
    cases hg : f.get m with
    | none => rw [hg] at h'; cases h'
    | some e =>
      rw [hg] at h'
      simp only at h'
      cases he : EV.eqb q e with
      | false => rw [he] at h'; cases h'
      | true =>
        rw [he] at h'
        rcases List.mem_cons.1 hm with e' | hm
        · cases e'
          rw [hg, EV.eqb_eq _ _ he]
        · exact ih h' hm

noncomputable def okState (l : List (Nat × EO)) (k : Nat) (fl : List (Nat × EV)) (m : Nat) (x : XR) : Bool :=
  XR.rec false (fun f h => Bool.rec false (Bool.rec false (Bool.rec false (subL l k h) (Nat.ble h.next k)) (subF fl f)) (Nat.beq f.n m)) (fun _ _ _ => false) (fun _ _ _ => false) (fun _ _ => false) x

omit [Syms] in
theorem okState_sub {l : List (Nat × EO)} {k m : Nat} {fl : List (Nat × EV)} {x : XR} (h : okState l k fl m x = true) : ∃ f1 h1, x = .normal f1 h1 ∧ EH.sub ⟨litH l, k⟩ h1 ∧ Fr.sub (⟨m, litF fl⟩ : Fr) f1 := by
  cases x with
  | normal f1 h1 =>
    have h' : (Bool.rec false (Bool.rec false (Bool.rec false (subL l k h1) (Nat.ble h1.next k)) (subF fl f1)) (Nat.beq f1.n m) : Bool) = true := h
    cases hn : Nat.beq f1.n m with
    | false => rw [hn] at h'; cases h'
    | true =>
      rw [hn] at h'
      simp only at h'
      cases hf : subF fl f1 with
      | false => rw [hf] at h'; cases h'
      | true =>
        rw [hf] at h'
        simp only at h'
        cases hk : Nat.ble h1.next k with
        | false => rw [hk] at h'; cases h'
        | true =>
          rw [hk] at h'
          exact ⟨f1, h1, rfl, ⟨fun n o e => (subL_mem h' (litH_get e)).1, Nat.le_of_ble_eq_true hk, fun n o e => (subL_mem h' (litH_get e)).2⟩, (Nat.eq_of_beq_eq_true hn).symm, fun s e' hs => subF_mem hf (litF_get hs)⟩
  | _ => cases h

theorem sound1_seq0 {rd : Bool} {a b : Code} {f1 : Fr} {h1 : EH} {x : XR} (p : Sound1 P rd a f h (.normal f1 h1)) (q : Sound1 P rd b f1 h1 x) : Sound1 P rd (.seq a b) f h x := by
  intro ro n ρ ac w hfr hr hl
  refine seq_wp (x1 := .normal f1 h1) (p ro n ρ ac w hfr hr hl) (fun f' h' e ρ' a' w' q1 q2 q3 => ?_) (fun hn => absurd rfl (hn _ _))
  cases e
  exact q ro n ρ' a' w' q1 q2 (hl.ext q3)

omit [Syms] in
theorem runL_cons {ex : Ex} {rd : Bool} {a : Code} {l : List Code} {f1 : Fr} {h1 : EH} (e : runL ex rd (a :: l) f h = .normal f1 h1) : ∃ f' h', ex rd a f h = .normal f' h' ∧ runL ex rd l f' h' = .normal f1 h1 := by
  have e' : XR.rec (motive := fun _ => XR) .fail (fun f h => runL ex rd l f h) (fun _ _ _ => .fail) (fun _ _ _ => .fail) (fun _ _ => .fail) (ex rd a f h) = .normal f1 h1 := e
  cases hx : ex rd a f h with
  | normal f' h' => rw [hx] at e'; exact ⟨f', h', rfl, e'⟩
  | _ => rw [hx] at e'; cases e'

theorem sound1_heads (ht : FnOk P tb) {N : Nat} {rd : Bool} {c : Code} {x : XR} (q : Sound1 P rd c fL hL x) : ∀ (l : List Code) (a : Code) (f : Fr) (h : EH) (f1 : Fr) (h1 : EH), runL (exec tb N) rd (a :: l) f h = .normal f1 h1 → EH.sub hL h1 → Fr.sub fL f1 → Sound1 P rd (seqs (a :: l) c) f h x := by
  intro l
  induction l with
  | nil =>
    intro a f h f1 h1 e hs hf
    obtain ⟨f', h', e1, e2⟩ := runL_cons e
    cases e2
    exact sound1_seq (sound1_exec ht e1 (fun e => by cases e)) hs hf q
  | cons b l ih =>
    intro a f h f1 h1 e hs hf
    obtain ⟨f', h', e1, e2⟩ := runL_cons e
    exact sound1_seq0 (sound1_exec ht e1 (fun e => by cases e)) (ih b f' h' f1 h1 e2 hs hf)

/-- A body's run in two parts. -/
theorem sound1_parts (ht : FnOk P tb) {N d k m : Nat} {c : Code} {l : List (Nat × EO)} {fl : List (Nat × EV)} {x : XR} {f : Fr} {h : EH} (hd : heads d c ≠ []) (h1 : okState l k fl m (runL (execF tb N) false (heads d c) f h) = true)
    (h2 : Sound1 P false (tail d c) ⟨m, litF fl⟩ ⟨litH l, k⟩ x) : Sound1 P false c f h x := by
  rw [execF_eq] at h1
  obtain ⟨f1, hh1, e, s1, s2⟩ := okState_sub h1
  rw [← seqs_heads d c]
  cases hl : heads d c with
  | nil => exact absurd hl hd
  | cons a l => rw [hl] at e; exact sound1_heads ht h2 l a f h f1 hh1 e s1 s2
end Go.Eng

namespace Go.Eng
open Go
variable [Syms]

variable {P : Program} {tb : Tab} {ρ ρ' : Ren} {h h' hL : EH} {w w' : World} {f fL : Fr}

/-! One call at a written-out state, as an intrinsic. -/

noncomputable def eqbsF (a b : List EV) : Bool := EV.eqbs a b

/-- A call of these arguments in a heap that holds these objects: it comes to this value, and to these objects. -/
noncomputable def memoI (a0 : List EV) (lin : List (Nat × EO)) (kin : Nat) (v : EV) (lout : List (Nat × EO)) (kout : Nat) (args : List EV) (h : EH) : Option (EV × EH) :=
  Bool.rec none (Bool.rec none (Bool.rec none (some (v, ⟨litH lout, kout⟩)) (Nat.ble h.next kin)) (subL lin kin h)) (EV.eqbs args a0)

/-- Does a run end in this value, with these objects? -/
noncomputable def okEnd (tb : Tab) (rs : List ResultVar) (v : EV) (lout : List (Nat × EO)) (kout : Nat) (x : XR) : Bool :=
  XR.rec false (fun _ _ => false) (fun _ _ _ => false) (fun _ _ _ => false) (fun f h => Option.rec false (fun vs => Bool.rec false (Bool.rec false (subL lout kout h) (Nat.ble h.next kout)) (EV.eqb v (retE vs))) (resE tb f h rs)) x

omit [Syms] in
theorem okEnd_spec {rs : List ResultVar} {v : EV} {lout : List (Nat × EO)} {kout : Nat} {x : XR} (h : okEnd tb rs v lout kout x = true) :
    ∃ f h1 vs, x = .ret f h1 ∧ resE tb f h1 rs = some vs ∧ retE vs = v ∧ EH.sub ⟨litH lout, kout⟩ h1 := by
  cases x with
  | ret f h1 =>
    have h' : (Option.rec false (fun vs => Bool.rec false (Bool.rec false (subL lout kout h1) (Nat.ble h1.next kout)) (EV.eqb v (retE vs))) (resE tb f h1 rs) : Bool) = true := h
    cases hv : resE tb f h1 rs with
    | none => rw [hv] at h'; cases h'
    | some vs =>
      rw [hv] at h'
      simp only at h'
      cases he : EV.eqb v (retE vs) with
      | false => rw [he] at h'; cases h'
      | true =>
        rw [he] at h'
        simp only at h'
        cases hk : Nat.ble h1.next kout with
        | false => rw [hk] at h'; cases h'
        | true =>
          rw [hk] at h'
          exact ⟨f, h1, vs, rfl, hv, (EV.eqb_eq _ _ he).symm, ⟨fun n o e => (subL_mem h' (litH_get e)).1, Nat.le_of_ble_eq_true hk, fun n o e => (subL_mem h' (litH_get e)).2⟩⟩
  | _ => cases h

theorem memo_ok (ht : FnOk P tb) {g : FuncId} {fn : Func} {c : Code} {a0 : List EV} {lin lout : List (Nat × EO)} {kin kout : Nat} {v : EV} {f1 : Fr} {h1 : EH} {vs : List EV} (hfn : tb.fn g = some fn) (hbody : fn.body = some c) (hn : a0.length ≤ fn.ntmps)
    (hs : Sound1 P false c (initFr fn.ntmps a0) ⟨litH lin, kin⟩ (.ret f1 h1)) (hvs : resE tb f1 h1 fn.results.toList = some vs) (hv : retE vs = v) (hout : EH.sub ⟨litH lout, kout⟩ h1)
    (args : List EV) (h : EH) (v1 : EV) (h' : EH) (hx : memoI a0 lin kin v lout kout args h = some (v1, h')) (ρ : Ren) (w : World) (args' : Array Value) (hr : Rel P ρ h w) (ha : VRels ρ args args'.toList) : CallOk P g args' w (CPost P ρ h w v1 h') := by
  have hx' : (Bool.rec none (Bool.rec none (Bool.rec none (some (v, ⟨litH lout, kout⟩)) (Nat.ble h.next kin)) (subL lin kin h)) (EV.eqbs args a0) : Option (EV × EH)) = some (v1, h') := hx
  cases he : EV.eqbs args a0 with
  | false => rw [he] at hx'; cases hx'
  | true =>
    rw [he] at hx'
    simp only at hx'
    cases hl : subL lin kin h with
    | false => rw [hl] at hx'; cases hx'
    | true =>
      rw [hl] at hx'
      simp only at hx'
      cases hk : Nat.ble h.next kin with
      | false => rw [hk] at hx'; cases hx'
      | true =>
        rw [hk] at hx'
        cases hx'
        have hk := Nat.le_of_ble_eq_true hk
        have := EV.eqbs_eq _ _ he
        subst this
        have hsub : EH.sub ⟨litH lin, kin⟩ h := ⟨fun n o e => (subL_mem hl (litH_get e)).1, hk, fun n o e => (subL_mem hl (litH_get e)).2⟩
        have hc := call_sound1 (ρ := ρ) (w := w) (args' := args') ht hfn hbody hs hvs (hr.thin hsub) (initFr_rel ha hn)
        refine hc.mono fun v' w' hq => ?_
        obtain ⟨ρ', q1, q2, q3⟩ := hq
        rw [hv] at q1
        refine ⟨ρ', q1, q2.thin hout, ((q3.thin hout).less hsub).weaken fun n hn => ?_⟩
        rcases hn with ⟨_, hn⟩ | hn
        · exact hn
        · exact Nat.le_trans hk hn
end Go.Eng

namespace Go.Eng
open Go

/-! What a state holds may be forgotten, cell by cell. -/

noncomputable def anyCell (n off : Nat) (h : EH) : EH :=
  match h.get n with
  | some (.cells c e vr) => match c.get off with
    | some ev => cond ev.one (h.set n (.cells (T.set deep c off .any) e vr)) h
    | none => h
  | _ => h
def setAnyAt : List (EV × EV × Nat) → Nat → List (EV × EV × Nat)
  | [], _ => []
  | (k, v, b) :: es, 0 => (k, cond v.one .any v, b) :: es
  | e :: es, i + 1 => e :: setAnyAt es i
noncomputable def anyVal (n i : Nat) (h : EH) : EH :=
  match h.get n with
  | some (.map es clock) => h.set n (.map (setAnyAt es i) clock)
  | _ => h

variable [Syms]
variable {P : Program} {ρ : Ren} {h : EH} {w : World}

/-- An object may be told by less. -/
theorem Rel.less (hr : Rel P ρ h w) {n : Nat} {o o' : EO} (hg : h.get n = some o) (ho : ∀ L, ρ n = some L → ORel P ρ L o w.heap[L.b]? → ORel P ρ L o' w.heap[L.b]?) : Rel P ρ (h.set n o') w where
  live m q L e1 e2 := by
    rcases EH.get_set e1 with ⟨rfl, rfl⟩ | ⟨hne, e1⟩
    · exact ho L e2 (hr.live m o L hg e2)
    · exact hr.live m q L e1 e2
  inj m m' q q' L L' e1 e2 e3 e4 e5 := by
    have lift : ∀ m q, (h.set n o').get m = some q → ∃ q0, h.get m = some q0 := fun m q e => by
      rcases EH.get_set e with ⟨rfl, _⟩ | ⟨_, e⟩
      · exact ⟨_, hg⟩
      · exact ⟨_, e⟩
    obtain ⟨q0, f1⟩ := lift _ _ e1
    obtain ⟨q1, f2⟩ := lift _ _ e2
    exact hr.inj _ _ _ _ _ _ f1 f2 e3 e4 e5
  dom := hr.dom
  low m q e := by
    rcases EH.get_set e with ⟨rfl, _⟩ | ⟨_, e⟩
    · exact hr.low _ _ hg
    · exact hr.low _ _ e
  pin := hr.pin

omit [Syms] in
theorem extd_less {S : Nat → Prop} {ρ0 : Ren} {h0 : EH} {w0 : World} (hx : Extd S ρ0 h0 w0 ρ h w) {n : Nat} {o o' : EO} (hg : h.get n = some o) : Extd S ρ0 h0 w0 ρ (h.set n o') w :=
  { hx with
    next := hx.next
    gets := fun m q e => by
      rcases EH.get_set e with ⟨rfl, _⟩ | ⟨_, e⟩
      · exact hx.gets _ _ hg
      · exact hx.gets _ _ e
    sub := fun m q L e1 e2 e3 => by
      rcases EH.get_set e1 with ⟨rfl, _⟩ | ⟨_, e1⟩
      · exact hx.sub _ _ _ hg e2 e3
      · exact hx.sub _ _ _ e1 e2 e3 }

theorem VRel.forget {e : EV} {v : Value} (h : VRel ρ e v) (h1 : e.one = true) : VRel ρ .any v := .any _ (h.one h1)

theorem anyCell_ok (n off : Nat) (hr : Rel P ρ h w) : Rel P ρ (anyCell n off h) w ∧ ∀ (S : Nat → Prop) (ρ0 : Ren) (h0 : EH) (w0 : World), Extd S ρ0 h0 w0 ρ h w → Extd S ρ0 h0 w0 ρ (anyCell n off h) w := by
  unfold anyCell
  split
  · rename_i c e vr hg
    split
    · rename_i ev hc
      cases h1 : ev.one with
      | false => exact ⟨hr, fun _ _ _ _ hx => hx⟩
      | true =>
        refine ⟨hr.less hg fun L _ ho => ?_, fun _ _ _ _ hx => extd_less hx hg⟩
        obtain ⟨cc, fr, g1, g2, g3, g4, g5⟩ := ho
        refine ⟨cc, fr, g1, g2, g3, g4, fun k x hk => ?_⟩
        rcases T.get_set _ _ _ _ _ _ hk with ⟨rfl, rfl⟩ | ⟨_, hk⟩
        · obtain ⟨v, a1, a2, a3⟩ := g5 k ev hc
          exact ⟨v, a1, .any _ a3, a3⟩
        · exact g5 k x hk
    · exact ⟨hr, fun _ _ _ _ hx => hx⟩
  · exact ⟨hr, fun _ _ _ _ hx => hx⟩

theorem setAnyAt_rel : ∀ {es : List (EV × EV × Nat)} {xs : List MapEntry} (i : Nat), MRel ρ es xs → MRel ρ (setAnyAt es i) xs
  | [], [], _, h => h
  | (k, v, b) :: es, x :: xs, 0, ⟨h1, h2, h3, h4⟩ => by
    refine ⟨h1, ?_, h3, h4⟩
    show VRel ρ (cond v.one .any v) x.val
    cases hv : v.one with
    | false => exact h2
    | true => exact h2.forget hv
  | e :: es, x :: xs, i + 1, ⟨h1, h2, h3, h4⟩ => ⟨h1, h2, h3, setAnyAt_rel i h4⟩

theorem anyVal_ok (n i : Nat) (hr : Rel P ρ h w) : Rel P ρ (anyVal n i h) w ∧ ∀ (S : Nat → Prop) (ρ0 : Ren) (h0 : EH) (w0 : World), Extd S ρ0 h0 w0 ρ h w → Extd S ρ0 h0 w0 ρ (anyVal n i h) w := by
  unfold anyVal
  split
  · rename_i es clock hg
    refine ⟨hr.less hg fun L _ ho => ?_, fun _ _ _ _ hx => extd_less hx hg⟩
    obtain ⟨es', g1, g2⟩ := ho
    exact ⟨es', g1, setAnyAt_rel i g2⟩
  · exact ⟨hr, fun _ _ _ _ hx => hx⟩

/-- What is forgotten: a cell of a block, a value of a map. -/
inductive Fg where
  | cell (n off : Nat)
  | val (n i : Nat)
noncomputable def Fg.on (g : Fg) (h : EH) : EH :=
  match g with
  | .cell n off => anyCell n off h
  | .val n i => anyVal n i h
noncomputable def forget (l : List Fg) (h : EH) : EH := List.rec (motive := fun _ => EH → EH) (fun h => h) (fun g _ ih h => ih (g.on h)) l h

theorem forget_ok : ∀ (l : List Fg) {h : EH}, Rel P ρ h w → Rel P ρ (forget l h) w ∧ ∀ (S : Nat → Prop) (ρ0 : Ren) (h0 : EH) (w0 : World), Extd S ρ0 h0 w0 ρ h w → Extd S ρ0 h0 w0 ρ (forget l h) w := by
  intro l
  induction l with
  | nil => exact fun hr => ⟨hr, fun _ _ _ _ hx => hx⟩
  | cons g l ih =>
    intro h hr
    have h1 : Rel P ρ (g.on h) w ∧ ∀ (S : Nat → Prop) (ρ0 : Ren) (h0 : EH) (w0 : World), Extd S ρ0 h0 w0 ρ h w → Extd S ρ0 h0 w0 ρ (g.on h) w := by
      cases g with
      | cell n off => exact anyCell_ok n off hr
      | val n i => exact anyVal_ok n i hr
    obtain ⟨q1, q2⟩ := ih h1.1
    exact ⟨q1, fun S ρ0 h0 w0 hx => q2 S ρ0 h0 w0 (h1.2 S ρ0 h0 w0 hx)⟩

theorem sound1_forget {rd : Bool} {c : Code} {f f1 : Fr} {h1 : EH} (l : List Fg) (hs : Sound1 P rd c f h (.normal f1 h1)) : Sound1 P rd c f h (.normal f1 (forget l h1)) := by
  intro ro n ρ ac w hfr hr hl
  refine wpIn_mono (hs ro n ρ ac w hfr hr hl) fun e a' w' hq => ?_
  obtain ⟨ρ', f2, h2, q1, q2, q3, q4, q5⟩ := hq
  cases e with
  | normal =>
    obtain ⟨rfl, rfl⟩ := q1
    obtain ⟨r1, r2⟩ := forget_ok l q3
    exact ⟨ρ', f2, forget l h2, ⟨rfl, rfl⟩, q2, r1, r2 _ _ _ _ q4, q5.keep (r2 (fun _ => False) _ _ _ (Extd.refl _ _ _ _))⟩
  | _ => exact q1.elim
end Go.Eng

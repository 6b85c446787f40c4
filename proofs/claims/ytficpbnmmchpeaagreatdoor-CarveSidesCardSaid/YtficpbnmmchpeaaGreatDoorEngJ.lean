/- A part of the proof of CarveSides: a verified interpreter of the model's own code, its soundness, and contracts of the library's functions. Conditions: none. -/
import Derived.Test.YtficpbnmmchpeaaGreatDoorEngA
namespace Go.Eng
open Go

/-! The engine again, of small closed parts and bare recursors: what the kernel computes with. -/

inductive Pa where
  | out (n : Nat)
  | here
  | lf (p : Pa)
  | rt (p : Pa)

noncomputable def paF (fu : Nat) : Nat → Pa :=
  Nat.rec (motive := fun _ => Nat → Pa) Pa.out (fun _ ih n => Bool.rec (Bool.rec (.rt (ih (Nat.div (Nat.sub n 1) 2))) (.lf (ih (Nat.div n 2))) (Nat.beq (Nat.mod n 2) 1)) .here (Nat.beq n 0)) fu

noncomputable def paOf (n : Nat) : Pa := paF 40 n

noncomputable def getP {α : Type} (p : Pa) : T α → Option α :=
  Pa.rec (motive := fun _ => T α → Option α) (fun n t => T.get t n) (fun t => T.rec none (fun _ v _ _ _ => v) t)
    (fun _ ih t => T.rec none (fun l _ _ _ _ => ih l) t) (fun _ ih t => T.rec none (fun _ _ r _ _ => ih r) t) p

noncomputable def setP {α : Type} (p : Pa) : α → T α → T α :=
  Pa.rec (motive := fun _ => α → T α → T α) (fun _ _ _ => .leaf) (fun a t => T.rec (.node .leaf (some a) .leaf) (fun l _ r _ _ => .node l (some a) r) t)
    (fun _ ih a t => T.rec (.node (ih a .leaf) none .leaf) (fun l v r _ _ => .node (ih a l) v r) t)
    (fun _ ih a t => T.rec (.node .leaf none (ih a .leaf)) (fun l v r _ _ => .node l v (ih a r)) t) p

theorem T.get_leaf {α : Type} (n : Nat) : (T.leaf : T α).get n = none := rfl

theorem getP_eq {α : Type} (fu n : Nat) (t : T α) : getP (paF fu n) t = t.get n := by
  induction fu generalizing n t with
  | zero => rfl
  | succ fu ih =>
    show getP (Bool.rec (Bool.rec (.rt (paF fu (Nat.div (Nat.sub n 1) 2))) (.lf (paF fu (Nat.div n 2))) (Nat.beq (Nat.mod n 2) 1)) .here (Nat.beq n 0)) t = _
    cases t with
    | leaf => cases Nat.beq n 0 <;> cases Nat.beq (Nat.mod n 2) 1 <;> rfl
    | node l v r =>
      unfold T.get
      cases Nat.beq n 0 <;> cases Nat.beq (Nat.mod n 2) 1 <;> first | rfl | exact ih _ _

theorem setP_eq {α : Type} (fu n : Nat) (t : T α) (a : α) : setP (paF fu n) a t = T.set fu t n a := by
  induction fu generalizing n t with
  | zero => rfl
  | succ fu ih =>
    show setP (Bool.rec (Bool.rec (.rt (paF fu (Nat.div (Nat.sub n 1) 2))) (.lf (paF fu (Nat.div n 2))) (Nat.beq (Nat.mod n 2) 1)) .here (Nat.beq n 0)) a t = _
    cases t with
    | leaf =>
      unfold T.set
      cases Nat.beq n 0 <;> cases Nat.beq (Nat.mod n 2) 1 <;> first | rfl | skip
      · exact congrArg (T.node T.leaf none) (ih _ _)
      · exact congrArg (T.node · none T.leaf) (ih _ _)
    | node l v r =>
      unfold T.set
      cases Nat.beq n 0 <;> cases Nat.beq (Nat.mod n 2) 1 <;> first | rfl | skip
      · exact congrArg (T.node l v) (ih _ _)
      · exact congrArg (T.node · v r) (ih _ _)

noncomputable def T.getF {α : Type} (t : T α) (n : Nat) : Option α := getP (paOf n) t
noncomputable def T.setF {α : Type} (t : T α) (n : Nat) (a : α) : T α := setP (paOf n) a t
theorem T.getF_eq {α : Type} (t : T α) (n : Nat) : t.getF n = t.get n := getP_eq ..
theorem T.setF_eq {α : Type} (t : T α) (n : Nat) (a : α) : t.setF n a = T.set deep t n a := setP_eq ..

noncomputable def Fr.getF (f : Fr) (t : Nat) : Option EV := Fr.rec (fun _ tr => getP (paOf t) tr) f
noncomputable def Fr.putF (f : Fr) (t : Nat) (v : EV) : Option Fr := Fr.rec (fun n tr => Bool.rec none (some ⟨n, setP (paOf t) v tr⟩) (Nat.ble (Nat.succ t) n)) f
theorem Fr.getF_eq (f : Fr) (t : Nat) : f.getF t = f.get t := getP_eq ..
theorem Fr.putF_eq (f : Fr) (t : Nat) (v : EV) : f.putF t v = f.put t v := by
  cases f with | mk n tr =>
  show (Bool.rec none (some ⟨n, setP (paOf t) v tr⟩) (Nat.ble (Nat.succ t) n) : Option Fr) = cond (Nat.ble (Nat.succ t) n) (some ⟨n, T.set deep tr t v⟩) none
  rw [show setP (paOf t) v tr = T.set deep tr t v from setP_eq ..]
  cases Nat.ble (Nat.succ t) n <;> rfl

noncomputable def EH.getF (h : EH) (n : Nat) : Option EO := EH.rec (fun o _ => getP (paOf n) o) h
noncomputable def EH.setF (h : EH) (n : Nat) (o : EO) : EH := EH.rec (fun ob nx => ⟨setP (paOf n) o ob, nx⟩) h
theorem EH.getF_eq (h : EH) (n : Nat) : h.getF n = h.get n := getP_eq ..
theorem EH.setF_eq (h : EH) (n : Nat) (o : EO) : h.setF n o = h.set n o := congrArg (EH.mk · h.next) (setP_eq ..)

noncomputable def evF (f : Fr) (x : Operand) : Option EV := Operand.rec (motive := fun _ => Fr → Option EV) (fun t f => Fr.getF f t) (fun v _ => conv v) (fun _ _ => none) (fun g _ => some (.func (.func g) [] [])) x f
theorem evF_eq (f : Fr) (x : Operand) : evF f x = ev f x := by
  cases x <;> first | exact Fr.getF_eq .. | rfl

noncomputable def evsF (f : Fr) (l : List Operand) : Option (List EV) :=
  List.rec (motive := fun _ => Fr → Option (List EV)) (fun _ => some []) (fun x _ ih f => Option.rec none (fun e => Option.rec none (fun es => some (e :: es)) (ih f)) (evF f x)) l f
theorem evsF_eq (f : Fr) (l : List Operand) : evsF f l = evs f l := by
  induction l with
  | nil => rfl
  | cons x l ih =>
    show (Option.rec none (fun e => Option.rec none (fun es => some (e :: es)) (evsF f l)) (evF f x) : Option (List EV)) = _
    rw [ih, evF_eq]
    cases hx : ev f x with
    | none => simp only [evs, hx]
    | some e => cases hl : evs f l <;> simp only [evs, hx, hl]

noncomputable def sizeF (tb : Tab) (t : TypeId) : Option Nat := Option.rec none (fun i => some i.size) (tb.inf t)
theorem sizeF_eq (tb : Tab) (t : TypeId) : sizeF tb t = tb.size t := by
  unfold sizeF Tab.size
  cases tb.inf t <;> rfl

/-! Values, by what they are. -/
noncomputable def onPtr {R : Type} (v : EV) (k : Nat → Nat → Option R) : Option R :=
  EV.rec (motive_1 := fun _ => (Nat → Nat → Option R) → Option R) (motive_2 := fun _ => PUnit) (fun _ _ => none) (fun _ _ _ => none) (fun _ _ => none) (fun n o k => k n o) (fun _ => none) (fun _ _ _ _ _ _ => none) (fun _ => none)
    (fun _ _ => none) (fun _ => none) (fun _ _ _ _ _ _ => none) (fun _ => none) (fun _ _ _ _ => none) (fun _ => none) (fun _ _ _ => none) (fun _ _ _ => none) (fun _ => none) (fun _ _ => none) .unit (fun _ _ _ _ => .unit) v k
noncomputable def onInt {R : Type} (v : EV) (k : IntKind → Int → Option R) (d : Option R) : Option R :=
  EV.rec (motive_1 := fun _ => (IntKind → Int → Option R) → Option R → Option R) (motive_2 := fun _ => PUnit) (fun _ _ d => d) (fun j n k _ => k j n) (fun _ _ d => d) (fun _ _ _ d => d) (fun _ d => d) (fun _ _ _ _ _ _ d => d) (fun _ d => d)
    (fun _ _ d => d) (fun _ d => d) (fun _ _ _ _ _ _ d => d) (fun _ d => d) (fun _ _ _ _ d => d) (fun _ d => d) (fun _ _ _ d => d) (fun _ _ _ d => d) (fun _ d => d) (fun _ _ d => d) .unit (fun _ _ _ _ => .unit) v k d
theorem onPtr_eq {R : Type} (v : EV) (k : Nat → Nat → Option R) : onPtr v k = match v with | .ptr n o => k n o | _ => none := by cases v <;> rfl
theorem onInt_eq {R : Type} (v : EV) (k : IntKind → Int → Option R) (d : Option R) : onInt v k d = match v with | .int j n => k j n | _ => d := by cases v <;> rfl

noncomputable def loadF (tb : Tab) (h : EH) (t : TypeId) (n off : Nat) : Option EV :=
  Option.rec none (fun d => Bool.rec (Option.rec none (fun o => EO.rec (fun c _ _ => getP (paOf off) c) (fun _ _ => none) (fun _ _ => none) (fun _ _ _ _ => none) (fun _ _ _ _ _ _ => none) o) (EH.getF h n)) (loadE tb h t n off) (isAggD d)) (tb.und t)
theorem loadF_eq (tb : Tab) (h : EH) (t : TypeId) (n off : Nat) : loadF tb h t n off = loadE tb h t n off := by
  unfold loadF
  cases hu : tb.und t with
  | none => simp [loadE, hu]
  | some d =>
    cases hd : isAggD d with
    | true => simp only [hd]
    | false =>
      simp only [loadE, hu, hd, cond, EH.cell]
      rw [EH.getF_eq]
      cases h.get n with
      | none => rfl
      | some o => cases o <;> first | exact getP_eq .. | rfl


/-! ### Numbers -/
noncomputable def natV (k : IntKind) (m : Nat) : Option EV := Nat.rec (some (.int k (.ofNat 0))) (fun p _ => some (.int k (.ofNat (Nat.succ p)))) m
theorem natV_eq (k : IntKind) (m : Nat) : natV k m = some (.int k (.ofNat m)) := by cases m <;> rfl

noncomputable def kNum (k : IntKind) : Nat := IntKind.rec 0 1 2 3 4 5 6 7 k
theorem kNum_eq (j k : IntKind) : Nat.beq (kNum j) (kNum k) = decide (j = k) := by cases j <;> cases k <;> rfl

/-- A number that is not below zero, wrapped. -/
noncomputable def wrapN (k : IntKind) (m : Nat) : Option EV :=
  IntKind.rec (motive := fun _ => Nat → Option EV) (fun m => some (.int .i8 (IntKind.wrap .i8 (.ofNat m)))) (fun m => some (.int .i16 (IntKind.wrap .i16 (.ofNat m))))
    (fun m => Bool.rec (some (.int .i32 (IntKind.wrap .i32 (.ofNat m)))) (natV .i32 m) (Nat.ble m 2147483647))
    (fun m => Bool.rec (some (.int .i64 (IntKind.wrap .i64 (.ofNat m)))) (natV .i64 m) (Nat.ble m 9223372036854775807))
    (fun m => natV .u8 (Nat.mod m 256)) (fun m => natV .u16 (Nat.mod m 65536)) (fun m => natV .u32 (Nat.mod m 4294967296)) (fun m => natV .u64 (Nat.mod m 18446744073709551616)) k m
theorem wrapN_eq (k : IntKind) (m : Nat) : wrapN k m = some (.int k (k.wrap (.ofNat m))) := by
  cases k with
  | i8 => rfl
  | i16 => rfl
  | i32 =>
    show (Bool.rec (some (.int .i32 (IntKind.wrap .i32 (.ofNat m)))) (natV .i32 m) (Nat.ble m 2147483647) : Option EV) = _
    cases h : Nat.ble m 2147483647 with
    | false => rfl
    | true =>
      have := Nat.le_of_ble_eq_true h
      show natV .i32 m = _
      rw [natV_eq]
      have e : IntKind.wrap .i32 (Int.ofNat m) = Int.ofNat m := by
        simp [IntKind.wrap, IntKind.bits, IntKind.signed]
        omega
      rw [e]
  | i64 =>
    show (Bool.rec (some (.int .i64 (IntKind.wrap .i64 (.ofNat m)))) (natV .i64 m) (Nat.ble m 9223372036854775807) : Option EV) = _
    cases h : Nat.ble m 9223372036854775807 with
    | false => rfl
    | true =>
      have := Nat.le_of_ble_eq_true h
      show natV .i64 m = _
      rw [natV_eq]
      have e : IntKind.wrap .i64 (Int.ofNat m) = Int.ofNat m := by
        simp [IntKind.wrap, IntKind.bits, IntKind.signed]
        omega
      rw [e]
  | u8 => exact (natV_eq ..).trans (by simp [IntKind.wrap, IntKind.bits, IntKind.signed]; rfl)
  | u16 => exact (natV_eq ..).trans (by simp [IntKind.wrap, IntKind.bits, IntKind.signed]; rfl)
  | u32 => exact (natV_eq ..).trans (by simp [IntKind.wrap, IntKind.bits, IntKind.signed]; rfl)
  | u64 => exact (natV_eq ..).trans (by simp [IntKind.wrap, IntKind.bits, IntKind.signed]; rfl)

/-- Both not below zero, of one kind? -/
noncomputable def on2 (k : Nat → Nat → Option EV) (g : Option EV) (a b : Int) : Option EV := Int.rec (motive := fun _ => Option EV) (fun x => Int.rec (motive := fun _ => Option EV) (fun y => k x y) (fun _ => g) b) (fun _ => g) a

noncomputable def binIntF (op : BinOp) (j _k : IntKind) (a b : Int) : Option EV :=
  (match op with
  | .add => fun j a b => on2 (fun x y => wrapN j (Nat.add x y)) (binInt .add j a b) a b
  | .sub => fun j a b => on2 (fun x y => Bool.rec (binInt .sub j a b) (wrapN j (Nat.sub x y)) (Nat.ble y x)) (binInt .sub j a b) a b
  | .mul => fun j a b => on2 (fun x y => wrapN j (Nat.mul x y)) (binInt .mul j a b) a b
  | .eql => fun j a b => on2 (fun x y => some (.bool (Nat.beq x y))) (binInt .eql j a b) a b
  | .neq => fun j a b => on2 (fun x y => some (.bool (Bool.rec true false (Nat.beq x y)))) (binInt .neq j a b) a b
  | .lss => fun j a b => on2 (fun x y => some (.bool (Nat.ble (Nat.succ x) y))) (binInt .lss j a b) a b
  | .leq => fun j a b => on2 (fun x y => some (.bool (Nat.ble x y))) (binInt .leq j a b) a b
  | .gtr => fun j a b => on2 (fun x y => some (.bool (Nat.ble (Nat.succ y) x))) (binInt .gtr j a b) a b
  | .geq => fun j a b => on2 (fun x y => some (.bool (Nat.ble y x))) (binInt .geq j a b) a b
  | op => fun j a b => binInt op j a b) j a b

theorem binIntF_eq (op : BinOp) (j k : IntKind) (a b : Int) : binIntF op j k a b = binInt op j a b := by
  unfold binIntF
  have h2 : ∀ (q : Nat → Nat → Option EV) (g : Option EV), (∀ x y : Nat, a = .ofNat x → b = .ofNat y → q x y = g) → on2 q g a b = g := by
    intro q g hq
    cases a with
    | negSucc _ => rfl
    | ofNat x => cases b with
      | negSucc _ => rfl
      | ofNat y => exact hq x y rfl rfl
  cases op <;> first
    | rfl
    | (apply h2; rintro x y rfl rfl; rw [wrapN_eq]; rfl)
    | skip
  · apply h2; rintro x y rfl rfl
    cases h : Nat.ble y x with
    | false => rfl
    | true =>
      have := Nat.le_of_ble_eq_true h
      show wrapN j (Nat.sub x y) = _
      rw [wrapN_eq]
      show _ = some (EV.int j (j.wrap (Int.ofNat x - Int.ofNat y)))
      congr 3
      show ((x - y : Nat) : Int) = _
      rw [Int.ofNat_sub this]; rfl
  case neq =>
    apply h2; rintro x y rfl rfl
    have e : Nat.beq x y = decide ((Int.ofNat x) = Int.ofNat y) := by rw [Bool.eq_iff_iff]; simp; omega
    show some (EV.bool (Bool.rec true false (Nat.beq x y))) = some (.bool (!decide ((Int.ofNat x) = Int.ofNat y)))
    rw [e]
    cases decide ((Int.ofNat x) = Int.ofNat y) <;> rfl
  all_goals
    apply h2; rintro x y rfl rfl
    simp only [binInt, Int.ofNat_eq_natCast]
    congr 2
    first
      | (rw [Bool.eq_iff_iff]; simp; done)
      | (rw [Bool.eq_iff_iff]; simp; omega)
      | (cases h : Nat.beq x y <;> simp at h <;> simp [h] <;> omega)
      | (rw [Bool.eq_iff_iff]; simp [Nat.beq_eq]; try omega)
      | skip

/-! ### Lists, rows -/
noncomputable def nthF {α : Type} (l : List α) (i : Nat) : Option α := List.rec (motive := fun _ => Nat → Option α) (fun _ => none) (fun a _ ih i => Nat.rec (some a) (fun j _ => ih j) i) l i
theorem nthF_eq {α : Type} (l : List α) (i : Nat) : nthF l i = l[i]? := by
  induction l generalizing i with
  | nil => rfl
  | cons a l ih => cases i with
    | zero => rfl
    | succ i => exact (ih i).trans (by simp)
theorem nthF_arr {α : Type} (l : Array α) (i : Nat) : nthF l.toList i = l[i]? := by rw [nthF_eq]; simp

noncomputable def readF (c : T EV) (off k : Nat) : Option (List EV) :=
  Nat.rec (motive := fun _ => Nat → Option (List EV)) (fun _ => some []) (fun _ ih off => Option.rec none (fun e => Option.rec none (fun es => some (e :: es)) (ih (Nat.succ off))) (getP (paOf off) c)) k off
theorem readF_eq (c : T EV) (off k : Nat) : readF c off k = readFrom c off k := by
  induction k generalizing off with
  | zero => rfl
  | succ k ih =>
    show (Option.rec none (fun e => Option.rec none (fun es => some (e :: es)) (readF c (Nat.succ off) k)) (getP (paOf off) c) : Option (List EV)) = _
    rw [ih, show getP (paOf off) c = c.get off from getP_eq ..]
    cases hx : c.get off with
    | none => simp only [readFrom, hx]
    | some e => cases hl : readFrom c (off + 1) k <;> simp only [readFrom, hx, hl, Nat.add_eq]

noncomputable def writeFF (c : T EV) (off : Nat) (l : List EV) : T EV :=
  List.rec (motive := fun _ => T EV → Nat → T EV) (fun c _ => c) (fun e _ ih c off => ih (setP (paOf off) e c) (Nat.succ off)) l c off
theorem writeFF_eq (c : T EV) (off : Nat) (l : List EV) : writeFF c off l = writeFrom c off l := by
  induction l generalizing c off with
  | nil => rfl
  | cons e l ih =>
    show writeFF (setP (paOf off) e c) (Nat.succ off) l = _
    rw [ih, show setP (paOf off) e c = T.set deep c off e from setP_eq ..]
    rfl

noncomputable def oneF (v : EV) : Bool :=
  EV.rec (motive_1 := fun _ => Bool) (motive_2 := fun _ => PUnit) (fun _ => true) (fun _ _ => true) (fun _ => true) (fun _ _ => true) true (fun _ _ _ _ _ => true) true
    (fun _ => true) true (fun _ _ _ _ _ => true) true (fun _ _ _ => true) true (fun _ _ => false) (fun _ _ => false) true (fun _ => true) .unit (fun _ _ _ _ => .unit) v
theorem oneF_eq (v : EV) : oneF v = v.one := by cases v <;> rfl

noncomputable def allF (l : List EV) : Bool := List.rec true (fun e _ ih => Bool.rec false ih (oneF e)) l
theorem allF_eq (l : List EV) : allF l = l.all EV.one := by
  induction l with
  | nil => rfl
  | cons e l ih =>
    show (Bool.rec false (allF l) (oneF e) : Bool) = _
    rw [ih, oneF_eq, List.all_cons]
    cases e.one <;> rfl

noncomputable def isSomeF {α : Type} (x : Option α) : Bool := Option.rec false (fun _ => true) x

noncomputable def EH.writeF (h : EH) (n off : Nat) (l : List EV) : Option EH :=
  Option.rec none (fun o => EO.rec (motive := fun _ => EH → Nat → Nat → List EV → Option EH)
    (fun c e vr h n off l => Bool.rec none (Bool.rec none (some (EH.setF h n (.cells (writeFF c off l) e vr))) (isSomeF (readF c off l.length))) (allF l))
    (fun _ _ _ _ _ _ => none) (fun _ _ _ _ _ _ => none) (fun _ _ _ _ _ _ _ _ => none) (fun _ _ _ _ _ _ _ _ _ _ => none) o h n off l) (EH.getF h n)
theorem EH.writeF_eq (h : EH) (n off : Nat) (l : List EV) : h.writeF n off l = h.write n off l := by
  unfold EH.writeF EH.write
  rw [EH.getF_eq]
  cases h.get n with
  | none => rfl
  | some o => cases o with
    | cells c e vr =>
      show (Bool.rec none (Bool.rec none (some (EH.setF h n (.cells (writeFF c off l) e vr))) (isSomeF (readF c off l.length))) (allF l) : Option EH) = cond (l.all EV.one && (readFrom c off l.length).isSome) (some (h.set n (.cells (writeFrom c off l) e vr))) none
      rw [EH.setF_eq, writeFF_eq, readF_eq, allF_eq]
      cases l.all EV.one with
      | false => rfl
      | true => cases readFrom c off l.length <;> rfl
    | _ => rfl

noncomputable def storeF (tb : Tab) (h : EH) (t : TypeId) (n off : Nat) (v : EV) : Option EH :=
  Option.rec none (fun k => Bool.rec (storeE tb h t n off v) (Bool.rec none (EH.writeF h n off [v]) (Nat.beq 1 k)) (oneF v)) (sizeF tb t)
theorem storeF_eq (tb : Tab) (h : EH) (t : TypeId) (n off : Nat) (v : EV) : storeF tb h t n off v = storeE tb h t n off v := by
  unfold storeF
  rw [sizeF_eq]
  cases hs : tb.size t with
  | none => simp [storeE, hs]
  | some k =>
    rw [oneF_eq, EH.writeF_eq]
    cases ho : v.one with
    | false => rfl
    | true =>
      have hc : v.cells = [v] := by cases v <;> first | rfl | cases ho
      simp only [storeE, hs, hc, List.length_singleton]
      cases Nat.beq 1 k <;> rfl

noncomputable def loadAggF (tb : Tab) (h : EH) (t : TypeId) (n off : Nat) : Option EV :=
  Option.rec none (fun k => Option.rec none (fun o => EO.rec (fun c _ _ => Option.rec none (fun l => some (.agg l)) (readF c off k)) (fun _ _ => none) (fun _ _ => none) (fun _ _ _ _ => none) (fun _ _ _ _ _ _ => none) o) (EH.getF h n)) (sizeF tb t)
noncomputable def loadG (tb : Tab) (h : EH) (t : TypeId) (n off : Nat) : Option EV :=
  Option.rec none (fun d => Bool.rec (Option.rec none (fun o => EO.rec (fun c _ _ => getP (paOf off) c) (fun _ _ => none) (fun _ _ => none) (fun _ _ _ _ => none) (fun _ _ _ _ _ _ => none) o) (EH.getF h n)) (loadAggF tb h t n off) (isAggD d)) (tb.und t)
theorem loadG_eq (tb : Tab) (h : EH) (t : TypeId) (n off : Nat) : loadG tb h t n off = loadE tb h t n off := by
  rw [← loadF_eq]
  unfold loadG loadF
  cases hu : tb.und t with
  | none => rfl
  | some d =>
    cases hd : isAggD d with
    | false => simp only [hd]
    | true =>
      simp only [hd]
      unfold loadAggF loadE
      rw [hu, sizeF_eq]
      simp only [hd, cond]
      cases tb.size t with
      | none => rfl
      | some k =>
        simp only [EH.read, EH.getF_eq]
        cases h.get n with
        | none => rfl
        | some o => cases o <;> first | rfl | (simp only [readF_eq]; cases readFrom _ off k <;> rfl)

/-! ### The helpers, by paths -/
noncomputable def rowK (l : List EV) : T EV := writeFF .leaf 0 l
theorem rowK_eq (l : List EV) : rowK l = rowOf l := writeFF_eq ..
noncomputable def EH.cellK (h : EH) (n off : Nat) : Option EV := Option.rec none (fun o => EO.rec (fun c _ _ => getP (paOf off) c) (fun _ _ => none) (fun _ _ => none) (fun _ _ _ _ => none) (fun _ _ _ _ _ _ => none) o) (EH.getF h n)
theorem EH.cellK_eq (h : EH) (n off : Nat) : h.cellK n off = h.cell n off := by
  unfold EH.cellK EH.cell
  rw [EH.getF_eq]
  cases h.get n with
  | none => rfl
  | some o => cases o <;> first | exact getP_eq .. | rfl
noncomputable def EH.readK (h : EH) (n off k : Nat) : Option (List EV) := Option.rec none (fun o => EO.rec (fun c _ _ => readF c off k) (fun _ _ => none) (fun _ _ => none) (fun _ _ _ _ => none) (fun _ _ _ _ _ _ => none) o) (EH.getF h n)
theorem EH.readK_eq (h : EH) (n off k : Nat) : h.readK n off k = h.read n off k := by
  unfold EH.readK EH.read
  rw [EH.getF_eq]
  cases h.get n with
  | none => rfl
  | some o => cases o <;> first | exact readF_eq .. | rfl

noncomputable def sliceK (tb : Tab) (hp : EH) (t : TypeId) (x : EV) (lo hi mx : Option EV) : Option EV :=
  match tb.und t with
  | some .string => match x, mx with
    | .str s, none => match boundE lo 0, boundE hi s.length with
      | some l, some h => if l ≤ h ∧ h ≤ s.length then some (.str ((s.take h).drop l)) else none
      | _, _ => none
    | _, _ => none
  | some (.slice e) => match tb.size e with
    | none => none
    | some es => match x with
      | .nilSlice => (match mx with
        | none => (match boundE lo 0, boundE hi 0 with
          | some 0, some 0 => some .nilSlice
          | _, _ => none)
        | some m => (match hi with
          | some hi1 => (match boundE lo 0, boundE (some hi1) 0, boundE (some m) 0 with
            | some 0, some 0, some 0 => some .nilSlice
            | _, _, _ => none)
          | none => none))
      | .slice n off len cap es' => if es' = es then (match boundE lo 0, boundE hi len with
        | some l, some h => (match mx with
          | none => (match cap with
            | none => if l ≤ h ∧ h ≤ len then some (.slice n (off + l * es) (h - l) none es) else none
            | some c => if l ≤ h ∧ h ≤ c then some (sliceOf n off es l h c (some (c - l))) else none)
          | some m => (match hi, boundE (some m) 0 with
            | some _, some m => if l ≤ h ∧ h ≤ m ∧ m ≤ (cap.getD len) then some (sliceOf n off es l h m (some (m - l))) else none
            | _, _ => none))
        | _, _ => none) else none
      | _ => none
  | some (.array k e) => match x, tb.size e, mx with
    | .ptr n off, some es, none => match boundE lo 0, boundE hi k with
      | some l, some h => if l ≤ h ∧ h ≤ k ∧ 0 < k * es ∧ (hp.cellK n (off + (k * es - 1))).isSome = true then some (sliceOf n off es l h k (some (k - l))) else none
      | _, _ => none
    | _, _, _ => none
  | _ => none

theorem sliceK_eq (tb : Tab) (hp : EH) (t : TypeId) (x : EV) (lo hi mx : Option EV) : sliceK tb hp t x lo hi mx = sliceE tb hp t x lo hi mx := by
  unfold sliceK sliceE
  simp only [EH.cellK_eq]
  first | done | rfl

noncomputable def lookupK (tb : Tab) (h : EH) (t : TypeId) (m k : EV) (ok : Bool) : Option EV :=
  match tb.und t with
  | some (.map kt et) => cond (keyOk tb kt k) (
    match (match m with
      | .nilMap => some []
      | .map n => match h.getF n with
        | some (.map es _) => some es
        | _ => none
      | _ => none) with
    | some es => match findE tb kt k es 0 with
      | some (some (_, v)) => some (cond ok (.tuple [v, .bool true]) v)
      | some none => match tb.zero et with
        | some z => some (cond ok (.tuple [z, .bool false]) z)
        | none => none
      | none => none
    | none => none) none
  | _ => none

theorem lookupK_eq (tb : Tab) (h : EH) (t : TypeId) (m k : EV) (ok : Bool) : lookupK tb h t m k ok = lookupE tb h t m k ok := by
  unfold lookupK lookupE
  simp only [EH.getF_eq]
  first | done | rfl

noncomputable def mapPutK (tb : Tab) (h : EH) (t : TypeId) (m k v : EV) : Option EH :=
  match tb.und t with
  | some (.map kt _) => cond (keyOk tb kt k) (
    match m with
    | .map n => match h.getF n with
      | some (.map es clock) => match findE tb kt k es 0 with
        | some (some (i, _)) => cond (keySame (keyAt es i) k) (some (h.setF n (.map (setVal k v es i) clock))) none
        | some none => some (h.setF n (.map (es ++ [(k, v, clock)]) (clock + 1)))
        | none => none
      | _ => none
    | _ => none) none
  | _ => none

theorem mapPutK_eq (tb : Tab) (h : EH) (t : TypeId) (m k v : EV) : mapPutK tb h t m k v = mapPutE tb h t m k v := by
  unfold mapPutK mapPutE
  simp only [EH.getF_eq, EH.setF_eq]
  first | done | rfl

noncomputable def mapDelK (tb : Tab) (h : EH) (t : TypeId) (m k : EV) : Option EH :=
  match tb.und t with
  | some (.map kt _) => cond (keyOk tb kt k) (
    match m with
    | .nilMap => some h
    | .map n => match h.getF n with
      | some (.map es clock) => match findE tb kt k es 0 with
        | some (some (i, _)) => some (h.setF n (.map (es.eraseIdx i) clock))
        | some none => some h
        | none => none
      | _ => none
    | _ => none) none
  | _ => none

theorem mapDelK_eq (tb : Tab) (h : EH) (t : TypeId) (m k : EV) : mapDelK tb h t m k = mapDelE tb h t m k := by
  unfold mapDelK mapDelE
  simp only [EH.getF_eq, EH.setF_eq]
  first | done | rfl

noncomputable def appendK (_tb : Tab) (h : EH) (nm : Nat) (e : TypeId) (es : Nat) (s : EV) (news : List EV) (m : Nat) : Option (EV × EH) :=
      match s with
      | .nilSlice => if m = 0 then some (.nilSlice, h) else cond (Nat.ble m 1073741824) (some (.slice nm 0 m none es, h.setF nm (.cells (rowK news) e false))) none
      | .slice n off len cap es' => if es' = es ∧ len + m ≤ 1073741824 then (
          if m = 0 then some (s, h) else
          match h.getF n with
          | some (.cells c e' vr) => match readF c off (len * es) with
            | some old => match cap with
              | some k => if len + m ≤ k then some (.slice n off (len + m) cap es, h.setF n (.cells (writeFF c (off + len * es) news) e' vr))
                  else some (.slice nm 0 (len + m) none es, h.setF nm (.cells (rowK (old ++ news)) e false))
              | none => if e' = e then some (.slice nm 0 (len + m) none es, (h.del n).setF nm (.cells (rowK (old ++ news)) e false)) else none
            | none => none
          | _ => none) else none
      | _ => none

theorem appendK_eq (tb : Tab) (h : EH) (nm : Nat) (e : TypeId) (es : Nat) (s : EV) (news : List EV) (m : Nat) : appendK tb h nm e es s news m = appendE tb h nm e es s news m := by
  unfold appendK appendE
  simp only [EH.getF_eq, EH.setF_eq, rowK_eq, readF_eq, writeFF_eq]
  first | done | rfl

noncomputable def sourceK (h : EH) (x : EV) (es : Nat) : Option (List EV × Nat) :=
  match x with
  | .nilSlice => some ([], 0)
  | .slice n off len _ es' => if len = 0 then some ([], 0) else if es' = es then (h.readK n off (len * es)).map (·, len) else none
  | .str s => some (s.map fun b => .int .u8 (Int.ofNat b), s.length)
  | _ => none

theorem sourceK_eq (h : EH) (x : EV) (es : Nat) : sourceK h x es = sourceE h x es := by
  unfold sourceK sourceE
  simp only [EH.readK_eq]
  first | done | rfl

noncomputable def lenK (tb : Tab) (h : EH) (t : TypeId) (x : EV) : Option EV :=
  match tb.und t with
  | some d => match d, x with
    | .string, .str s => some (.int .i64 s.length)
    | .string, .sym k => match tb.lens k with
      | some n => some (.int .i64 n)
      | none => none
    | .array n _, _ => some (.int .i64 n)
    | .slice _, .slice _ _ n _ _ => some (.int .i64 n)
    | .slice _, .nilSlice => some (.int .i64 0)
    | .map _ _, .nilMap => some (.int .i64 0)
    | .map _ _, .map n => match h.getF n with
      | some (.map es _) => some (.int .i64 es.length)
      | _ => none
    | _, _ => none
  | none => none

theorem lenK_eq (tb : Tab) (h : EH) (t : TypeId) (x : EV) : lenK tb h t x = lenE tb h t x := by
  unfold lenK lenE
  simp only [EH.getF_eq]
  first | done | rfl

noncomputable def builtinK (tb : Tab) (h : EH) (nm : Nat) (b : Builtin) (ts : List TypeId) (args : List EV) : Option OR :=
  match b, ts, args with
  | .len, t :: _, x :: _ => (lenK tb h t x).map (.val · h)
  | .cap, t :: _, x :: _ => match tb.und t, x with
    | some (.slice _), .slice _ _ _ (some c) _ => some (.val (.int .i64 c) h)
    | some (.slice _), .nilSlice => some (.val (.int .i64 0) h)
    | _, _ => none
  | .min, _, args => (minE args).map (.val · h)
  | .max, _, args => (maxE args).map (.val · h)
  | .append, t :: u :: _, s :: x :: _ => match tb.und t, tb.und u with
    | some (.slice e), some d => (match tb.inf e with
      | some i => cond (Nat.ble i.bytes 1024 && Nat.blt 0 i.size && zeroOk tb e i.size) (match d with
        | .int _ => (match x with
          | .int _ k => if 0 ≤ k ∧ k ≤ 1073741824 then (match zeroRow tb e k.toNat with
            | some z => (match appendK tb h nm e i.size s z k.toNat with
              | some (v, h') => some (.val v h')
              | none => none)
            | none => none) else none
          | _ => none)
        | _ => match sourceK h x i.size with
          | some (news, m) => cond (Nat.beq news.length (m * i.size)) (match appendK tb h nm e i.size s news m with
            | some (v, h') => some (.val v h')
            | none => none) none
          | none => none) none
      | none => none)
    | _, _ => none
  | .copy, t :: _, d :: x :: _ => match tb.und t with
    | some (.slice e) => match tb.size e with
      | some es => match sourceK h x es, d with
        | some (news, m), .slice n off len _ es' => if es' = es ∧ news.length = m * es then (
            match h.writeF n off (news.take (Nat.min m len * es)) with
            | some h' => some (.val (.int .i64 (Nat.min m len)) h')
            | none => none) else none
        | some (news, m), .nilSlice => if news.length = m * es then some (.val (.int .i64 0) h) else none
        | _, _ => none
      | none => none
    | _ => none
  | .unsafeSliceData, _, [.nilSlice] => some (.val .nilPtr h)
  | .unsafeSliceData, _, [.slice n off len _ _] => if len = 0 then none else some (.val (.ptr n off) h)
  | .unsafeString, _ :: _, [.nilPtr, .int _ k] => if k = 0 then some (.val (.str []) h) else none
  | .unsafeString, t :: _, [.ptr n off, .int _ k] => if 0 < k ∧ k ≤ 1099511627776 then (match h.getF n with
      | some (.cells c e _) => (match tb.und t, tb.size e, readF c off k.toNat with
        | some (.pointer u), some 1, some l => if u = e then (match bytesE l with
          | some bs => some (.val (.str bs) (h.del n))
          | none => none) else none
        | _, _, _ => none)
      | _ => none) else none
  | .delete, t :: _, m :: k :: _ => (mapDelK tb h t m k).map (.val (.tuple []) ·)
  | .clear, t :: _, x :: _ => match tb.und t, x with
    | some (.slice e), .slice n off len _ es' => match tb.zero e, tb.size e with
      | some z, some es => if es = es' then (h.writeF n off (repl z.cells len)).map (.val (.tuple []) ·) else none
      | _, _ => none
    | some (.slice _), .nilSlice => some (.val (.tuple []) h)
    | _, _ => none
  | _, _, _ => none

theorem builtinK_eq (tb : Tab) (h : EH) (nm : Nat) (b : Builtin) (ts : List TypeId) (args : List EV) : builtinK tb h nm b ts args = builtinE tb h nm b ts args := by
  unfold builtinK builtinE
  simp only [EH.writeF_eq, EH.getF_eq, readF_eq, mapDelK_eq, appendK_eq, sourceK_eq, lenK_eq]
  first | done | rfl

noncomputable def convertK (tb : Tab) (h : EH) (nm : Nat) (src dst : TypeId) (x : EV) : Option (EV × EH) :=
  match tb.und src, tb.und dst with
  | some s, some d => match s, d, x with
    | _, .int k, .int _ n => some (.int k (k.wrap n), h)
    | _, .string, .str s => some (.str s, h)
    | .pointer _, .unsafePointer, .nilPtr => some (.nilPtr, h)
    | .pointer t, .unsafePointer, .ptr n off => match tb.size t, h.cellK n off with
      | some k, some _ => if k = 0 then none else some (.ptr n off, h)
      | _, _ => none
    | .unsafePointer, .pointer _, .nilPtr => some (.nilPtr, h)
    | .unsafePointer, .pointer u, .ptr n 0 => match h.getF n, tb.size u with
      | some (.cells _ e true), some k => if e = u ∧ k ≠ 0 then some (.ptr n 0, h) else none
      | _, _ => none
    | .slice _, .slice e, .slice n off len cap es => if src = dst then (match tb.und e with
      | some (.int .u8) => (match h.getF n with
        | some (.cells t0 e0 vr) => (match tb.und e0 with
          | some (.int .u8) => some (.slice n off len cap es, h.setF n (.cells t0 e0 vr))
          | _ => none)
        | _ => none)
      | _ => none) else none
    | .string, .slice e, .str s => match tb.und e with
      | some (.int .u8) => cond (Nat.ble s.length 1099511627776) (some (.slice nm 0 s.length none 1, h.setF nm (.cells (rowK (s.map fun b => .int .u8 (Int.ofNat b))) e false))) none
      | _ => none
    | .slice e, .string, x => match tb.und e with
      | some (.int .u8) => match x with
        | .nilSlice => some (.str [], h)
        | .slice n off len _ _ => if len = 0 then some (.str [], h) else match h.readK n off len with
          | some l => match bytesE l with
            | some bs => some (.str bs, h)
            | none => none
          | none => none
        | _ => none
      | _ => none
    | _, _, _ => none
  | _, _ => none

theorem convertK_eq (tb : Tab) (h : EH) (nm : Nat) (src dst : TypeId) (x : EV) : convertK tb h nm src dst x = convertE tb h nm src dst x := by
  unfold convertK convertE
  simp only [EH.cellK_eq, EH.readK_eq, EH.getF_eq, EH.setF_eq, rowK_eq]
  first | done | rfl

noncomputable def recvK (tb : Tab) (h : EH) (t : TypeId) (v : EV) (p : Bool) : Option EV :=
  match tb.und t with
  | some (.pointer elem) => cond p (some v) (match v with
    | .ptr n off => loadG tb h elem n off
    | _ => none)
  | some _ => cond p none (some v)
  | none => none

theorem recvK_eq (tb : Tab) (h : EH) (t : TypeId) (v : EV) (p : Bool) : recvK tb h t v p = recvE tb h t v p := by
  unfold recvK recvE
  simp only [loadG_eq]
  first | done | rfl

noncomputable def invokeK (tb : Tab) (h : EH) (fn : Fn) (first cap args : List EV) : Option OR :=
  match fn with
  | .func f => some (.enter f (first ++ args ++ cap))
  | .yield l => match first, cap with
    | [], [] => some (.round l args)
    | _, _ => none
  | .method name => match first ++ args with
    | .iface t v :: rest => match methodE tb t name with
      | some (f, p) => match recvK tb h t v p with
        | some r => some (.enter f (r :: rest))
        | none => none
      | none => none
    | _ => none
  | .via t path f p => match tb.und t, first ++ args with
    | some (.pointer _), x :: rest => cond (path.isEmpty && p) (some (.enter f (x :: rest))) none
    | _, _ => none
  | .methodOf _ _ => none

theorem invokeK_eq (tb : Tab) (h : EH) (fn : Fn) (first cap args : List EV) : invokeK tb h fn first cap args = invokeE tb h fn first cap args := by
  unfold invokeK invokeE
  simp only [recvK_eq]
  first | done | rfl
noncomputable def a_pick (c a b : Operand) (_tb : Tab) (h : EH) (_nm : Nat) (f : Fr) : Option OR :=
 match evF f c with
    | some (.bool t) => (cond t (evF f a) (evF f b)).map (.val · h)
    | _ => none
noncomputable def a_alloc (e : TypeId) (tb : Tab) (h : EH) (nm : Nat) (_f : Fr) : Option OR :=
 match tb.zero e with
    | some z => cond (z.cells.all EV.one && decide (tb.size e = some z.cells.length)) (some (.val (.ptr nm 0) (h.setF nm (.cells (rowK z.cells) e true)))) none
    | none => none
noncomputable def a_box (e : TypeId) (x : Operand) (tb : Tab) (h : EH) (nm : Nat) (f : Fr) : Option OR :=
 match evF f x with
    | some v => cond (v.cells.all EV.one && decide (tb.size e = some v.cells.length)) (some (.val (.ptr nm 0) (h.setF nm (.cells (rowK v.cells) e true)))) none
    | none => none
noncomputable def a_build (t : TypeId) (ps : Array (Nat × Operand)) (tb : Tab) (h : EH) (_nm : Nat) (f : Fr) : Option OR :=
 match partsE f ps.toList with
    | some l => (buildE tb t l).map (.val · h)
    | none => none
noncomputable def a_buildSlice (t : TypeId) (len : Nat) (ps : Array (Nat × Operand)) (tb : Tab) (h : EH) (nm : Nat) (f : Fr) : Option OR :=
 match tb.und t with
    | some (.slice e) => match tb.size e, zeroRow tb e len, partsE f ps.toList with
      | some es, some z, some l => match fillE (fun i => some (i * es, es)) z l with
        | some cs => if len * es ≤ 2 ^ 24 ∧ cs.all EV.one = true then some (.val (.slice nm 0 len (some len) es) (h.setF nm (.cells (rowK cs) e false))) else none
        | none => none
      | _, _, _ => none
    | _ => none
noncomputable def a_nilCheck (x : Operand) (_tb : Tab) (h : EH) (_nm : Nat) (f : Fr) : Option OR :=
 match evF f x with
    | some (.ptr n off) => some (.val (.ptr n off) h)
    | some (.func (.func g) fi ca) => some (.val (.func (.func g) fi ca) h)
    | some (.iface t v) => some (.val (.iface t v) h)
    | _ => none
noncomputable def a_unOp (op : UnOp) (_ : TypeId) (x : Operand) (_tb : Tab) (h : EH) (_nm : Nat) (f : Fr) : Option OR :=
 match evF f x with
    | some a => (unE op a).map (.val · h)
    | none => none
noncomputable def a_convert (s d : TypeId) (x : Operand) (tb : Tab) (h : EH) (nm : Nat) (f : Fr) : Option OR :=
 match evF f x with
    | some a => match convertK tb h nm s d a with
      | some (v, h') => some (.val v h')
      | none => none
    | none => none
noncomputable def a_makeInterface (t : TypeId) (x : Operand) (tb : Tab) (h : EH) (_nm : Nat) (f : Fr) : Option OR :=
 match evF f x, tb.und t with
    | some v, some d => (match d with
      | .interface _ => none
      | _ => some (.val (.iface t v) h))
    | _, _ => none
noncomputable def a_makeFunc (fn : Fn) (fi ca : Array Operand) (_tb : Tab) (h : EH) (_nm : Nat) (f : Fr) : Option OR :=
 match fn with
    | .yield _ => none
    | fn => match evsF f fi.toList, evsF f ca.toList with
      | some a, some b => some (.val (.func fn a b) h)
      | _, _ => none
noncomputable def a_makeSlice (t : TypeId) (l c : Operand) (tb : Tab) (h : EH) (nm : Nat) (f : Fr) : Option OR :=
 match tb.und t, evF f l, evF f c with
    | some (.slice e), some (.int _ l), some (.int _ c) => match tb.size e, tb.inf e with
      | some es, some i => if 0 ≤ l ∧ l ≤ c ∧ c ≤ 1099511627776 ∧ c * i.bytes ≤ 1099511627776 then (match zeroRow tb e c.toNat with
        | some z => some (.val (.slice nm 0 l.toNat (some c.toNat) es) (h.setF nm (.cells (rowK z) e false)))
        | none => none) else none
      | _, _ => none
    | _, _, _ => none
noncomputable def a_slice (t : TypeId) (x : Operand) (lo hi mx : Option Operand) (tb : Tab) (h : EH) (_nm : Nat) (f : Fr) : Option OR :=
 match evF f x, evo f lo, evo f hi, evo f mx with
    | some x, some lo, some hi, some mx => (sliceK tb h t x lo hi mx).map (.val · h)
    | _, _, _, _ => none
noncomputable def a_field (t : TypeId) (x : Operand) (i : Nat) (tb : Tab) (h : EH) (_nm : Nat) (f : Fr) : Option OR :=
 match tb.und t, evF f x with
    | some (.struct fs), some (.agg cs) => match fs[i]? with
      | some fd => (partE tb fd.type cs fd.offset).map (.val · h)
      | none => none
    | _, _ => none
noncomputable def a_index (t : TypeId) (x i : Operand) (tb : Tab) (h : EH) (_nm : Nat) (f : Fr) : Option OR :=
 match tb.und t, evF f x, evF f i with
    | some .string, some (.str s), some (.int _ k) => if 0 ≤ k then (match s[k.toNat]? with
      | some b => some (.val (.int .u8 b) h)
      | none => none) else none
    | some (.array len e), some (.agg cs), some (.int _ k) => match tb.size e with
      | some es => if 0 ≤ k ∧ k < len then (partE tb e cs (k.toNat * es)).map (.val · h) else none
      | none => none
    | _, _, _ => none
noncomputable def a_lookup (t : TypeId) (x k : Operand) (ok : Bool) (tb : Tab) (h : EH) (_nm : Nat) (f : Fr) : Option OR :=
 match evF f x, evF f k with
    | some m, some k => (lookupK tb h t m k ok).map (.val · h)
    | _, _ => none
noncomputable def a_mapUpdate (t : TypeId) (m k v : Operand) (tb : Tab) (h : EH) (_nm : Nat) (f : Fr) : Option OR :=
 match evF f m, evF f k, evF f v with
    | some m, some k, some v => (mapPutK tb h t m k v).map .skip
    | _, _, _ => none
noncomputable def a_range (t : TypeId) (x : Operand) (tb : Tab) (h : EH) (nm : Nat) (f : Fr) : Option OR :=
 match tb.und t, evF f x with
    | some .string, some (.str s) => some (.val (.ptr nm 0) (h.setF nm (.strIter s 0)))
    | some (.map _ _), some .nilMap => some (.val (.ptr nm 0) (h.setF nm (.mapIter none 0 [] 0)))
    | some (.map _ _), some (.map m) => match h.getF m with
      | some (.map _ clock) => some (.val (.ptr nm 0) (h.setF nm (.mapIter (some m) clock [] clock)))
      | _ => none
    | _, _ => none
noncomputable def a_next (it : Operand) (isStr : Bool) (_tb : Tab) (h : EH) (_nm : Nat) (f : Fr) : Option OR :=
 match evF f it with
    | some (.ptr n 0) => match h.getF n, isStr with
      | some (.strIter s pos), true => match nextStr s pos with
        | some none => some (.val (.tuple [.bool false]) h)
        | some (some (c, wd)) => some (.val (.tuple [.bool true, .int .i64 pos, .int .i32 c]) (h.setF n (.strIter s (pos + wd))))
        | none => none
      | some (.mapIter none _ _ _), false => some (.val (.tuple [.bool false]) h)
      | some (.mapIter (some m) since seen last), false => match h.getF m with
        | some (.map es clock) =>
          let left := es.filter fun e => !seen.contains e.2.2
          if !seen.isEmpty && !es.isEmpty && es.all (fun e => last ≤ e.2.2) then none else
          match left with
          | [] => some (.val (.tuple [.bool false]) h)
          | [(k, v, b)] => if b < since then some (.val (.tuple [.bool true, k, v]) (h.setF n (.mapIter (some m) since (seen ++ [b]) clock))) else none
          | _ => none
        | _ => none
      | _, _ => none
    | _ => none
noncomputable def a_entry (it : Operand) (_tb : Tab) (h : EH) (_nm : Nat) (f : Fr) : Option OR :=
 match evF f it with
    | some (.ptr n 0) => match h.getF n with
      | some (.mapIter (some m) _ seen stepped) => match h.getF m, seen.getLast? with
        | some (.map es clock), some b => if clock = stepped then (es.find? fun e => Nat.beq e.2.2 b).map fun e => .val (.tuple [e.1, e.2.1]) h else none
        | _, _ => none
      | _ => none
    | _ => none
noncomputable def a_typeAssert (x : Operand) (_ t : TypeId) (ok : Bool) (tb : Tab) (h : EH) (_nm : Nat) (f : Fr) : Option OR :=
 match tb.und t, evF f x with
    | some d, some x => (match d with
      | .interface _ => none
      | _ => match x with
        | .iface u v => if u = t then some (.val (cond ok (.tuple [v, .bool true]) v) h) else if ok then (tb.zero t).map fun z => .val (.tuple [z, .bool false]) h else none
        | .nilIface => if ok then (tb.zero t).map fun z => .val (.tuple [z, .bool false]) h else none
        | _ => none)
    | _, _ => none
noncomputable def onTuple {R : Type} (v : EV) (k : List EV → Option R) : Option R :=
  EV.rec (motive_1 := fun _ => (List EV → Option R) → Option R) (motive_2 := fun _ => PUnit) (fun _ _ => none) (fun _ _ _ => none) (fun _ _ => none) (fun _ _ _ => none) (fun _ => none) (fun _ _ _ _ _ _ => none) (fun _ => none)
    (fun _ _ => none) (fun _ => none) (fun _ _ _ _ _ _ => none) (fun _ => none) (fun _ _ _ _ => none) (fun _ => none) (fun _ _ _ => none) (fun l _ k => k l) (fun _ => none) (fun _ _ => none) .unit (fun _ _ _ _ => .unit) v k
theorem onTuple_eq {R : Type} (v : EV) (k : List EV → Option R) : onTuple v k = match v with | .tuple l => k l | _ => none := by cases v <;> rfl
noncomputable def onSlice {R : Type} (v : EV) (k : Nat → Nat → Nat → Option Nat → Nat → Option R) : Option R :=
  EV.rec (motive_1 := fun _ => (Nat → Nat → Nat → Option Nat → Nat → Option R) → Option R) (motive_2 := fun _ => PUnit) (fun _ _ => none) (fun _ _ _ => none) (fun _ _ => none) (fun _ _ _ => none) (fun _ => none) (fun a b c d e k => k a b c d e) (fun _ => none)
    (fun _ _ => none) (fun _ => none) (fun _ _ _ _ _ _ => none) (fun _ => none) (fun _ _ _ _ => none) (fun _ => none) (fun _ _ _ => none) (fun _ _ _ => none) (fun _ => none) (fun _ _ => none) .unit (fun _ _ _ _ => .unit) v k
theorem onSlice_eq {R : Type} (v : EV) (k : Nat → Nat → Nat → Option Nat → Nat → Option R) : onSlice v k = match v with | .slice a b c d e => k a b c d e | _ => none := by cases v <;> rfl

noncomputable def orF {R : Type} (x y : Option R) : Option R := Option.rec y (fun r => some r) x
theorem orF_eq {R : Type} {x y : Option R} (h : ∀ r, x = some r → y = some r) : orF x y = y := by
  cases x with
  | none => rfl
  | some r => exact (h r rfl).symm

noncomputable def a_move (x : Operand) (_ : Tab) (h : EH) (_ : Nat) (f : Fr) : Option OR := Option.rec none (fun v => some (.val v h)) (evF f x)
noncomputable def a_load (t : TypeId) (a : Operand) (tb : Tab) (h : EH) (_ : Nat) (f : Fr) : Option OR :=
  Option.rec none (fun p => onPtr p fun n off => Option.rec none (fun v => some (.val v h)) (loadG tb h t n off)) (evF f a)
noncomputable def a_store (t : TypeId) (a x : Operand) (tb : Tab) (h : EH) (_ : Nat) (f : Fr) : Option OR :=
  Option.rec none (fun p => onPtr p fun n off => Option.rec none (fun v => Option.rec none (fun h' => some (.skip h')) (storeF tb h t n off v)) (evF f x)) (evF f a)
noncomputable def binG (op : BinOp) (t : TypeId) (x y : Operand) (a b : EV) (tb : Tab) (h : EH) : Option OR := cond (guardE x y a b) ((binE tb op t a b).map (.val · h)) none
noncomputable def isSh (op : BinOp) : Bool := BinOp.rec false false false false false false false false true true false false false false false false false op
noncomputable def a_binOp (op : BinOp) (t : TypeId) (x y : Operand) (_ : TypeId) (tb : Tab) (h : EH) (_ : Nat) (f : Fr) : Option OR :=
  Option.rec none (fun a => Option.rec none (fun b =>
    onInt a (fun j m => onInt b (fun k n => Bool.rec (Bool.rec none (Option.rec none (fun v => some (.val v h)) (binIntF op j k m n)) (Nat.beq (kNum j) (kNum k))) (binG op t x y a b tb h) (isSh op)) (binG op t x y a b tb h)) (binG op t x y a b tb h)) (evF f y)) (evF f x)
noncomputable def a_makeMap (_ : TypeId) (r : Option Operand) (_ : Tab) (h : EH) (nm : Nat) (_ : Fr) : Option OR :=
  Option.rec (some (.val (.map nm) (EH.setF h nm (.map [] 0)))) (fun _ => none) r
noncomputable def onStruct {R : Type} (d : TypeDesc) (k : Array Field → Option R) : Option R := (match d with | .struct fs => fun k => k fs | _ => fun _ => none : (Array Field → Option R) → Option R) k
noncomputable def onSliceT {R : Type} (d : TypeDesc) (k : TypeId → Option R) : Option R := (match d with | .slice e => fun k => k e | _ => fun _ => none : (TypeId → Option R) → Option R) k
noncomputable def a_fieldAddr (s : TypeId) (x : Operand) (i : Nat) (tb : Tab) (h : EH) (_ : Nat) (f : Fr) : Option OR :=
  Option.rec none (fun d => onStruct d fun fs => Option.rec none (fun p => onPtr p fun n off => Option.rec none (fun fd => Option.rec none (fun k => Nat.rec none (fun _ _ => some (.val (.ptr n (Nat.add off fd.offset)) h)) k) (sizeF tb fd.type)) (nthF fs.toList i)) (evF f x)) (tb.und s)
noncomputable def indexAddrG (t : TypeId) (x i : Operand) (tb : Tab) (h : EH) (f : Fr) : Option OR :=
  match tb.und t, ev f x, ev f i with
    | some (.slice e), some (.slice n off len _ es), some (.int _ k) => if 0 ≤ k ∧ k < len ∧ tb.size e = some es then some (.val (.ptr n (off + k.toNat * es)) h) else none
    | some (.array len e), some (.ptr n off), some (.int _ k) => match tb.size e with
      | some es => if 0 ≤ k ∧ k < len then some (.val (.ptr n (off + k.toNat * es)) h) else none
      | none => none
    | _, _, _ => none
noncomputable def indexAddrQ (t : TypeId) (x i : Operand) (tb : Tab) (h : EH) (f : Fr) : Option OR :=
  Option.rec none (fun d => onSliceT d fun e => Option.rec none (fun p => onSlice p fun n off len _ es => Option.rec none (fun q => onInt q (fun _ k => Int.rec (motive := fun _ => Option OR) (fun k => Bool.rec none (Option.rec none (fun s => Bool.rec none (some (.val (.ptr n (Nat.add off (Nat.mul k es))) h)) (Nat.beq s es)) (sizeF tb e)) (Nat.ble (Nat.succ k) len)) (fun _ => none) k) none) (evF f i)) (evF f x)) (tb.und t)
noncomputable def a_indexAddr (t : TypeId) (x i : Operand) (tb : Tab) (h : EH) (_ : Nat) (f : Fr) : Option OR := orF (indexAddrQ t x i tb h f) (indexAddrG t x i tb h f)
noncomputable def a_extract (x : Operand) (i : Nat) (_ : Tab) (h : EH) (_ : Nat) (f : Fr) : Option OR :=
  Option.rec none (fun p => onTuple p fun vs => Option.rec none (fun v => some (.val v h)) (nthF vs i)) (evF f x)

noncomputable def b_len (ts : List TypeId) (args : List EV) (tb : Tab) (h : EH) : Option OR :=
  List.rec none (fun t _ _ => List.rec none (fun x _ _ => Option.rec none (fun v => some (.val v h)) (lenK tb h t x)) args) ts
noncomputable def builtinF (b : Builtin) : List TypeId → List EV → Tab → EH → Nat → Option OR :=
  match b with
  | .len => fun ts args tb h _ => b_len ts args tb h
  | b => fun ts args tb h nm => builtinK tb h nm b ts args
theorem builtinF_eq (b : Builtin) (ts : List TypeId) (args : List EV) (tb : Tab) (h : EH) (nm : Nat) : builtinF b ts args tb h nm = builtinE tb h nm b ts args := by
  cases b <;> first | rfl | exact builtinK_eq .. | skip
  show b_len ts args tb h = _
  unfold builtinE b_len
  cases ts with
  | nil => rfl
  | cons t ts => cases args with
    | nil => rfl
    | cons x xs =>
      show (Option.rec none (fun v => some (OR.val v h)) (lenK tb h t x) : Option OR) = (lenE tb h t x).map (.val · h)
      rw [lenK_eq]
      cases lenE tb h t x <;> rfl

noncomputable def onFn (g : Operand) (k : FuncId → Option OR) (d : Option OR) : Option OR := Operand.rec (motive := fun _ => (FuncId → Option OR) → Option OR → Option OR) (fun _ _ d => d) (fun _ _ d => d) (fun _ _ d => d) (fun f k _ => k f) g k d
noncomputable def callG (g : Operand) (args : List EV) (tb : Tab) (h : EH) (f : Fr) : Option OR :=
  match evF f g with
      | some (.func fn first cap) => invokeK tb h fn first cap args
      | _ => none
noncomputable def callI (r : Operand) (name : String) (args : List EV) (tb : Tab) (h : EH) (f : Fr) : Option OR :=
  match evF f r with
      | some x => invokeK tb h (.method name) [] [] (x :: args)
      | none => none
noncomputable def calleeF (c : Callee) : List TypeId → List EV → Tab → EH → Nat → Fr → Option OR :=
  Callee.rec (fun g _ args tb h _ f => onFn g (fun k => some (.enter k args)) (callG g args tb h f)) (fun r name _ args tb h _ f => callI r name args tb h f) (fun b ts args tb h nm _ => builtinF b ts args tb h nm) c
noncomputable def a_call (c : Call) (tb : Tab) (h : EH) (nm : Nat) (f : Fr) : Option OR :=
  Call.rec (motive := fun _ => Option OR) (fun callee as ts => Option.rec none (fun args => calleeF callee ts.toList args tb h nm f) (evsF f as.toList)) c
theorem a_call_eq (c : Call) (tb : Tab) (h : EH) (nm : Nat) (f : Fr) : a_call c tb h nm f = callE1 tb h nm f c := by
  cases c with | mk callee as ts =>
  show (Option.rec none (fun args => calleeF callee ts.toList args tb h nm f) (evsF f as.toList) : Option OR) = _
  unfold callE1
  rw [evsF_eq]
  simp only
  cases evs f as.toList with
  | none => rfl
  | some args =>
    cases callee with
    | value g =>
      cases g with
      | func k => show some (OR.enter k args) = some (OR.enter k ([] ++ args ++ [])); simp
      | tmp k => show callG (.tmp k) args tb h f = _; unfold callG; simp only [evF_eq, invokeK_eq]; rfl
      | const k => show callG (.const k) args tb h f = _; unfold callG; simp only [evF_eq, invokeK_eq]; rfl
      | global k => show callG (.global k) args tb h f = _; unfold callG; simp only [evF_eq, invokeK_eq]; rfl
    | invoke r name => show callI r name args tb h f = _; unfold callI; simp only [evF_eq, invokeK_eq]; rfl
    | builtin b => exact builtinF_eq ..

theorem a_move_eq (x : Operand) (tb : Tab) (h : EH) (nm : Nat) (f : Fr) : a_move x tb h nm f = (ev f x).map (.val · h) := by
  unfold a_move; rw [evF_eq]; cases ev f x <;> rfl
theorem a_load_eq (t : TypeId) (a : Operand) (tb : Tab) (h : EH) (nm : Nat) (f : Fr) : a_load t a tb h nm f = match ev f a with
    | some (.ptr n off) => (loadE tb h t n off).map (.val · h)
    | _ => none := by
  unfold a_load; rw [evF_eq]
  cases ev f a with
  | none => rfl
  | some p => simp only [onPtr_eq]; cases p <;> first | rfl | (simp only [loadG_eq]; cases loadE tb h t _ _ <;> rfl)
theorem a_store_eq (t : TypeId) (a x : Operand) (tb : Tab) (h : EH) (nm : Nat) (f : Fr) : a_store t a x tb h nm f = match ev f a, ev f x with
    | some (.ptr n off), some v => (storeE tb h t n off v).map .skip
    | _, _ => none := by
  unfold a_store; rw [evF_eq, evF_eq]
  cases ev f a with
  | none => rfl
  | some p =>
    simp only [onPtr_eq]
    cases p <;> first | rfl | skip
    cases ev f x with
    | none => rfl
    | some v => simp only [storeF_eq]; cases storeE tb h t _ _ v <;> rfl
theorem isSh_of {op : BinOp} (h : isSh op = false) {tb : Tab} {t : TypeId} {j k : IntKind} {a b : Int} : binE tb op t (.int j a) (.int k b) = if j = k then binInt op j a b else none := by
  cases op <;> first | rfl | cases h
theorem a_binOp_eq (op : BinOp) (t : TypeId) (x y : Operand) (yt : TypeId) (tb : Tab) (h : EH) (nm : Nat) (f : Fr) : a_binOp op t x y yt tb h nm f = match ev f x, ev f y with
    | some a, some b => cond (guardE x y a b) ((binE tb op t a b).map (.val · h)) none
    | _, _ => none := by
  unfold a_binOp; rw [evF_eq, evF_eq]
  cases ev f x with
  | none => rfl
  | some a => cases ev f y with
    | none => rfl
    | some b =>
      simp only [onInt_eq]
      cases a <;> first | rfl | skip
      cases b <;> first | rfl | skip
      rename_i j m k n
      cases hs : isSh op with
      | true => rfl
      | false =>
        simp only [guardE, cond, isSh_of hs, kNum_eq, binIntF_eq]
        by_cases hjk : j = k
        · subst hjk
          simp only [decide_true, if_true]
          cases binInt op j m n <;> rfl
        · simp only [decide_false, hjk, if_false]; rfl
theorem a_fieldAddr_eq (s : TypeId) (x : Operand) (i : Nat) (tb : Tab) (h : EH) (nm : Nat) (f : Fr) : a_fieldAddr s x i tb h nm f = match tb.und s, ev f x with
    | some (.struct fs), some (.ptr n off) => match fs[i]? with
      | some fd => match tb.size fd.type with
        | some k => if k = 0 then none else some (.val (.ptr n (off + fd.offset)) h)
        | none => none
      | none => none
    | _, _ => none := by
  unfold a_fieldAddr onStruct; rw [evF_eq]
  cases tb.und s with
  | none => rfl
  | some d =>
    cases d <;> first | rfl | skip
    rename_i fs
    simp only
    cases ev f x with
    | none => rfl
    | some p =>
      simp only [onPtr_eq]
      cases p <;> first | rfl | skip
      simp only [nthF_arr]
      cases fs[i]? with
      | none => rfl
      | some fd =>
        simp only [sizeF_eq]
        cases tb.size fd.type with
        | none => rfl
        | some k => cases k <;> rfl
theorem indexAddrQ_some (t : TypeId) (x i : Operand) (tb : Tab) (h : EH) (f : Fr) (r : OR) (hq : indexAddrQ t x i tb h f = some r) : indexAddrG t x i tb h f = some r := by
  unfold indexAddrQ onSliceT at hq
  unfold indexAddrG
  rw [evF_eq, evF_eq] at hq
  revert hq
  cases tb.und t with
  | none => intro hq; cases hq
  | some d =>
    cases d <;> first | (intro hq; cases hq; done) | skip
    rename_i e
    cases ev f x with
    | none => intro hq; cases hq
    | some p =>
      cases p <;> first | (intro hq; cases hq; done) | skip
      rename_i n off len cap es
      cases ev f i with
      | none => intro hq; cases hq
      | some q =>
        cases q <;> first | (intro hq; cases hq; done) | skip
        rename_i kk k
        cases k with
        | negSucc _ => intro hq; cases hq
        | ofNat k =>
          show (Bool.rec none (Option.rec none (fun s => Bool.rec none (some (OR.val (.ptr n (Nat.add off (Nat.mul k es))) h)) (Nat.beq s es)) (sizeF tb e)) (Nat.ble (Nat.succ k) len) : Option OR) = some r → _
          rw [sizeF_eq]
          simp only
          cases hb : Nat.ble (Nat.succ k) len with
          | false => intro hq; cases hq
          | true =>
            have hlt := Nat.le_of_ble_eq_true hb
            cases tb.size e with
            | none => intro hq; cases hq
            | some s =>
              simp only
              cases hs : Nat.beq s es with
              | false => intro hq; cases hq
              | true =>
                have := Nat.eq_of_beq_eq_true hs
                subst this
                intro hq
                rw [if_pos ⟨Int.natCast_nonneg k, Int.ofNat_lt.2 hlt, rfl⟩]
                exact hq
theorem a_extract_eq (x : Operand) (i : Nat) (tb : Tab) (h : EH) (nm : Nat) (f : Fr) : a_extract x i tb h nm f = match ev f x with
    | some (.tuple vs) => (vs[i]?).map (.val · h)
    | _ => none := by
  unfold a_extract; rw [evF_eq]
  cases ev f x with
  | none => rfl
  | some p =>
    simp only [onTuple_eq]
    cases p <;> first | rfl | skip
    simp only [nthF_eq]
    rename_i vs
    cases vs[i]? <;> rfl

noncomputable def a_no (_ : Tab) (_ : EH) (_ : Nat) (_ : Fr) : Option OR := none
noncomputable def opD (op : Op) : Tab → EH → Nat → Fr → Option OR :=
  match op with
  | .move x => a_move x
  | .assign x => a_move x
  | .pick c a b => a_pick c a b
  | .alloc e => a_alloc e
  | .box e x => a_box e x
  | .build t ps => a_build t ps
  | .buildSlice t len ps => a_buildSlice t len ps
  | .load t a => a_load t a
  | .store t a x => a_store t a x
  | .nilCheck x => a_nilCheck x
  | .binOp op t x y u => a_binOp op t x y u
  | .unOp op t x => a_unOp op t x
  | .convert s d x => a_convert s d x
  | .makeInterface t x => a_makeInterface t x
  | .makeFunc fn fi ca => a_makeFunc fn fi ca
  | .makeMap t r => a_makeMap t r
  | .makeSlice t l c => a_makeSlice t l c
  | .slice t x lo hi mx => a_slice t x lo hi mx
  | .fieldAddr s x i => a_fieldAddr s x i
  | .field t x i => a_field t x i
  | .indexAddr t x i => a_indexAddr t x i
  | .index t x i => a_index t x i
  | .lookup t x k ok => a_lookup t x k ok
  | .mapUpdate t m k v => a_mapUpdate t m k v
  | .insert t m k v => a_mapUpdate t m k v
  | .range t x => a_range t x
  | .next it s => a_next it s
  | .entry it => a_entry it
  | .typeAssert x a t ok => a_typeAssert x a t ok
  | .extract x i => a_extract x i
  | .call c => a_call c
  | _ => a_no
theorem opD_eq (tb : Tab) (h : EH) (nm : Nat) (f : Fr) (o : Oper) : opD o.op tb h nm f = opE tb h nm f o := by
  unfold opD opE
  cases ho : o.op <;> simp only [a_move_eq, a_load_eq, a_store_eq, a_binOp_eq, a_fieldAddr_eq, a_extract_eq, a_call_eq] <;> first
    | rfl
    | (simp only [a_pick, a_alloc, a_box, a_buildSlice, a_nilCheck, a_unOp, a_convert, a_makeInterface, a_makeFunc, a_makeSlice, a_slice, a_field, a_index, a_lookup, a_mapUpdate, a_range, a_next, a_entry, a_typeAssert, evF_eq, evsF_eq, EH.getF_eq, EH.setF_eq, rowK_eq, sliceK_eq, lookupK_eq, mapPutK_eq, convertK_eq] <;> rfl)
    | skip
  · rename_i t r
    cases r with
    | none => show some (OR.val (.map nm) (EH.setF h nm (.map [] 0))) = _; rw [EH.setF_eq]
    | some _ => rfl
  · show a_indexAddr _ _ _ tb h nm f = _
    exact orF_eq (indexAddrQ_some _ _ _ tb h f)

/-! ### Regions, code -/
noncomputable def setDstF (f : Fr) (dst : Option Tmp) (v : Option EV) : Option Fr :=
  Option.rec (some f) (fun d => Option.rec (some (f.del d)) (fun e => Fr.putF f d e) v) dst
theorem setDstF_eq (f : Fr) (dst : Option Tmp) (v : Option EV) : setDstF f dst v = setDst f dst v := by
  cases dst with
  | none => rfl
  | some d => cases v with
    | none => rfl
    | some e => exact Fr.putF_eq ..
noncomputable def wantedG (ops : Array Oper) (f : Fr) (g : Option (Nat × Bool)) : Option Bool :=
  match g with
  | none => some true
  | some (j, want) => match ops[j]? with
    | some p => match p.dst with
      | some d => match Fr.getF f d with
        | some (.bool b) => some (b == want)
        | some (.tuple _) => some false
        | _ => none
      | none => none
    | none => none
noncomputable def wantedF (ops : Array Oper) (f : Fr) (g : Option (Nat × Bool)) : Option Bool :=
  Option.rec (motive := fun _ => Array Oper → Fr → Option Bool) (fun _ _ => some true) (fun p ops f => wantedG ops f (some p)) g ops f
theorem wantedF_eq (ops : Array Oper) (f : Fr) (o : Oper) : wantedF ops f o.guard = wantedE ops f o := by
  unfold wantedE
  cases o.guard with
  | none => rfl
  | some p => show wantedG ops f (some p) = _; unfold wantedG; simp only [Fr.getF_eq]; rfl

noncomputable def orF1 (tb : Tab) (ex : Ex) (cw : Tab → Ex → FuncId → List EV → EH → Option (EV × EH)) (h : EH) (r : OR) (k : Option EV → EH → XR) : XR :=
  OR.rec (motive := fun _ => XR) (fun e h' => k (some e) h') (fun h' => k none h')
    (fun g args => Option.rec .fail (fun p => Prod.rec (fun v h' => k (some v) h') p) (cw tb ex g args h))
    (fun l args => Option.rec .fail (fun p => Prod.rec (fun v h' => k (some v) h') p) (roundWith ex l args h)) r

noncomputable def resK (tb : Tab) (f : Fr) (h : EH) (l : List ResultVar) : Option (List EV) :=
  List.rec (some []) (fun x _ ih => Option.rec none (fun e => Option.rec none (fun es => some (e :: es)) ih) (ResultVar.rec (fun t => Fr.getF f t) (fun a t => Option.rec none (fun p => onPtr p fun n off => loadG tb h t n off) (Fr.getF f a)) x)) l
theorem resK_eq (tb : Tab) (f : Fr) (h : EH) (l : List ResultVar) : resK tb f h l = resE tb f h l := by
  induction l with
  | nil => rfl
  | cons x l ih =>
    show (Option.rec none (fun e => Option.rec none (fun es => some (e :: es)) (resK tb f h l)) (ResultVar.rec (fun t => Fr.getF f t) (fun a t => Option.rec none (fun p => onPtr p fun n off => loadG tb h t n off) (Fr.getF f a)) x) : Option (List EV)) = _
    rw [ih]
    cases x with
    | tmp t =>
      simp only [Fr.getF_eq, resE]
      cases f.get t with
      | none => rfl
      | some e => cases resE tb f h l <;> rfl
    | cell a t =>
      simp only [Fr.getF_eq, resE]
      cases f.get a with
      | none => rfl
      | some p =>
        simp only [onPtr_eq]
        cases p <;> first | rfl | skip
        simp only [loadG_eq]
        cases loadE tb h t _ _ with
        | none => rfl
        | some e => cases resE tb f h l <;> rfl

noncomputable def initF (n : Nat) (args : List EV) : Fr := ⟨n, writeFF .leaf 0 args⟩
theorem initF_eq (n : Nat) (args : List EV) : initF n args = initFr n args := by unfold initF initFr; rw [writeFF_eq]

noncomputable def doneF (tb : Tab) (rs : List ResultVar) (f : Fr) (h : EH) : Option (EV × EH) := Option.rec none (fun vs => some (retE vs, h)) (resK tb f h rs)
noncomputable def xrDone (x : XR) (k : Fr → EH → Option (EV × EH)) : Option (EV × EH) :=
  XR.rec (motive := fun _ => (Fr → EH → Option (EV × EH)) → Option (EV × EH)) (fun _ => none) (fun f h k => k f h) (fun _ _ _ _ => none) (fun _ _ _ _ => none) (fun f h k => k f h) x k
noncomputable def bodyF (tb : Tab) (ex : Ex) (n : Nat) (rs : List ResultVar) (c : Code) (args : List EV) (h : EH) : Option (EV × EH) :=
  Bool.rec none (xrDone (ex false c (initF n args) h) (doneF tb rs)) (Nat.ble args.length n)
noncomputable def fnF (tb : Tab) (ex : Ex) (g : FuncId) (args : List EV) (h : EH) (fn : Func) : Option (EV × EH) :=
  Option.rec (Option.rec none (fun x => extE x args h) (tb.ext g)) (fun c => bodyF tb ex fn.ntmps fn.results.toList c args h) fn.body
noncomputable def callF (tb : Tab) (ex : Ex) (g : FuncId) (args : List EV) (h : EH) : Option (EV × EH) :=
  Option.rec (Option.rec none (fnF tb ex g args h) (tb.fn g)) (fun r => r args h) (tb.intr g)
theorem callF_eq (tb : Tab) (ex : Ex) (g : FuncId) (args : List EV) (h : EH) : callF tb ex g args h = callWith tb ex g args h := by
  unfold callF callWith
  cases tb.intr g with
  | some r => rfl
  | none =>
    simp only
    cases tb.fn g with
    | none => rfl
    | some fn =>
      simp only [fnF]
      cases fn.body with
      | none => cases tb.ext g <;> rfl
      | some c =>
        simp only [bodyF, initF_eq]
        cases Nat.ble args.length fn.ntmps with
        | false => rfl
        | true =>
          simp only [cond]
          cases ex false c (initFr fn.ntmps args) h <;> first
            | rfl
            | (simp only [xrDone, doneF, resK_eq]; cases resE tb _ _ fn.results.toList <;> rfl)

/-- One operation, and on. -/
noncomputable def stepF (tb : Tab) (ex : Ex) (ops : Array Oper) (nm : Nat) (f : Fr) (h : EH) (k : Fr → EH → XR) (dst : Option Tmp) (op : Op) (g : Option (Nat × Bool)) : XR :=
  Option.rec .fail (fun b => Bool.rec (Option.rec .fail (fun f' => k f' h) (setDstF f dst (some (.tuple []))))
    (Option.rec .fail (fun r => orF1 tb ex callF h r fun v h' => Option.rec .fail (fun f' => k f' h') (setDstF f dst v)) (opD op tb h nm f)) b) (wantedF ops f g)
noncomputable def regF (tb : Tab) (ex : Ex) (ops : Array Oper) (l : List Oper) : Fr → EH → XR :=
  List.rec (motive := fun _ => Fr → EH → XR) (fun f h => .normal f h) (fun o _ ih f h => EH.rec (fun ob nx => Oper.rec (fun dst op _ _ _ g => stepF tb ex ops nx f ⟨ob, Nat.succ nx⟩ ih dst op g) o) h) l
theorem orF1_eq (tb : Tab) (ex : Ex) (h : EH) (r : OR) (k : Option EV → EH → XR) : orF1 tb ex callF h r k = match orWith tb ex h r with | some (v, h') => k v h' | none => .fail := by
  cases r with
  | val e h' => rfl
  | skip h' => rfl
  | enter g args =>
    show (Option.rec .fail (fun p => Prod.rec (fun v h' => k (some v) h') p) (callF tb ex g args h) : XR) = _
    rw [callF_eq]
    unfold orWith
    simp only
    cases callWith tb ex g args h <;> rfl
  | round l args =>
    show (Option.rec .fail (fun p => Prod.rec (fun v h' => k (some v) h') p) (roundWith ex l args h) : XR) = _
    unfold orWith
    simp only
    cases roundWith ex l args h <;> rfl
theorem regF_eq (tb : Tab) (ex : Ex) (ops : Array Oper) (l : List Oper) (f : Fr) (h : EH) : regF tb ex ops l f h = regE tb ex ops l f h := by
  induction l generalizing f h with
  | nil => rfl
  | cons o l ih =>
    cases h with | mk ob nx =>
    cases o with | mk dst op ty pos after g =>
    show stepF tb ex ops nx f ⟨ob, nx + 1⟩ (regF tb ex ops l) dst op g = regE tb ex ops (⟨dst, op, ty, pos, after, g⟩ :: l) f ⟨ob, nx⟩
    unfold stepF regE oneE
    simp only [← wantedF_eq, ← opD_eq, setDstF_eq, orF1_eq]
    cases wantedF ops f g with
    | none => rfl
    | some b =>
      cases b with
      | false =>
        simp only
        cases setDst f dst (some (.tuple [])) with
        | none => rfl
        | some f' => exact ih _ _
      | true =>
        simp only
        cases opD op tb ⟨ob, nx + 1⟩ nx f with
        | none => rfl
        | some r =>
          simp only
          cases orWith tb ex ⟨ob, nx + 1⟩ r with
          | none => rfl
          | some p =>
            simp only
            cases setDst f dst p.1 with
            | none => rfl
            | some f' => exact ih _ _

noncomputable def xNormal (x : XR) (k : Fr → EH → XR) : XR :=
  XR.rec (motive := fun _ => (Fr → EH → XR) → XR) (fun _ => .fail) (fun f h k => k f h) (fun i f h _ => .exit i f h) (fun i f h _ => .goto i f h) (fun f h _ => .ret f h) x k
noncomputable def xExit (x : XR) (id : Nat) : XR :=
  XR.rec (motive := fun _ => Nat → XR) (fun _ => .fail) (fun f h _ => .normal f h) (fun i f h id => Bool.rec (.exit i f h) (.normal f h) (Nat.beq i id)) (fun i f h _ => .goto i f h) (fun f h _ => .ret f h) x id
noncomputable def onBool (v : EV) (a b : XR) : XR :=
  EV.rec (motive_1 := fun _ => XR → XR → XR) (motive_2 := fun _ => PUnit) (fun c a b => Bool.rec b a c) (fun _ _ _ _ => .fail) (fun _ _ _ => .fail) (fun _ _ _ _ => .fail) (fun _ _ => .fail) (fun _ _ _ _ _ _ _ => .fail) (fun _ _ => .fail)
    (fun _ _ _ => .fail) (fun _ _ => .fail) (fun _ _ _ _ _ _ _ => .fail) (fun _ _ => .fail) (fun _ _ _ _ _ => .fail) (fun _ _ => .fail) (fun _ _ _ _ => .fail) (fun _ _ _ _ => .fail) (fun _ _ => .fail) (fun _ _ _ => .fail) .unit (fun _ _ _ _ => .unit) v a b

noncomputable def rangeG (tb : Tab) (ex : Ex) (g : Operand) (ps : Array Tmp) (asg bd : Code) (f : Fr) (h : EH) : XR :=
  match ev f g with
      | some (.func (.func k) [] cap) => (match tb.fn k with
        | some fn => cond fn.body.isSome (match callWith tb ex k (.func (.yield h.next) [] [] :: cap) ⟨T.set deep h.objs h.next (.loop .ready none f ps.toList asg bd), h.next + 1⟩ with
          | some (_, h') => (match h'.get h.next with
            | some (.loop st pe fl ps asg bd) => (match st with
              | .busy => .fail
              | _ => (match pe with
                | none => .normal f (h'.set h.next (.loop .exhausted pe fl ps asg bd))
                | some (.exit i) => .exit i f (h'.set h.next (.loop .exhausted pe fl ps asg bd))
                | some .ret => .ret f (h'.set h.next (.loop .exhausted pe fl ps asg bd))
                | _ => .fail))
            | _ => .fail)
          | none => .fail) .fail
        | none => .fail)
      | _ => .fail

noncomputable def codeF (c : Code) : Tab → Ex → Nat → Bool → Fr → EH → XR :=
  match c with
  | .skip => fun _ _ _ _ f h => .normal f h
  | .label _ => fun _ _ _ _ f h => .normal f h
  | .region _ ops d => fun tb ex _ _ f h => Bool.rec (regF tb ex ops ops.toList f h) (drawE tb ex ops f h) d
  | .seq a b => fun _ ex _ rd f h => xNormal (ex rd a f h) (ex rd b)
  | .cond c a b => fun _ ex _ rd f h => Option.rec .fail (fun v => onBool v (ex rd a f h) (ex rd b f h)) (evF f c)
  | .block id b => fun _ ex _ rd f h => xExit (ex rd b f h) id
  | .loop b => fun _ ex _ rd f h => xNormal (ex rd b f h) (ex rd (.loop b))
  | .scope b => fun _ ex n rd f h => scopeE ex rd b n b f h
  | .goto l => fun _ _ _ _ f h => .goto l f h
  | .exit i => fun _ _ _ _ f h => .exit i f h
  | .ret => fun _ _ _ _ f h => .ret f h
  | .rangeFunc g ps asg bd => fun tb ex _ _ f h => rangeG tb ex g ps asg bd f h
  | _ => fun _ _ _ _ _ _ => .fail
noncomputable def execF (tb : Tab) (n : Nat) : Ex := Nat.rec (motive := fun _ => Ex) (fun _ _ _ _ => .fail) (fun n ih rd c f h => codeF c tb ih n rd f h) n
theorem execF_eq (tb : Tab) (n : Nat) : execF tb n = exec tb n := by
  induction n with
  | zero => rfl
  | succ n ih =>
    funext rd c f h
    show codeF c tb (execF tb n) n rd f h = _
    rw [ih]
    unfold codeF exec
    cases c <;> first | rfl | skip
    · rename_i id ops d
      cases d with
      | false => exact regF_eq ..
      | true => rfl
    · rename_i a b
      simp only [xNormal]
      cases exec tb n rd a f h <;> rfl
    · rename_i x a b
      simp only [evF_eq]
      cases ev f x with
      | none => rfl
      | some v => cases v <;> first | rfl | (rename_i b; cases b <;> rfl)
    · rename_i id b
      simp only [xExit]
      cases exec tb n rd b f h <;> first | rfl | (simp only; cases Nat.beq _ id <;> rfl)
    · rename_i b
      simp only [xNormal]
      cases exec tb n rd b f h <;> rfl
end Go.Eng

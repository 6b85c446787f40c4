/- A part of the proof of CarveSides: a verified interpreter of the model's own code, its soundness, and contracts of the library's functions. Conditions: none. -/
import GoSem.Dispatch
import GoSem.Machine.Frame
import Derived.Below
import Derived.Laws.Sem
import Derived.Laws.World
import Derived.Laws.Entries
import Derived.Control
namespace Go.Eng
open Go

/-- A trie by numbers. -/
inductive T (α : Type) where
  | leaf : T α
  | node : T α → Option α → T α → T α

def T.get {α : Type} : T α → Nat → Option α
  | .leaf, _ => none
  | .node l v r, n => cond (Nat.beq n 0) v (cond (Nat.beq (Nat.mod n 2) 1) (l.get (Nat.div n 2)) (r.get (Nat.div (Nat.sub n 1) 2)))

def T.set {α : Type} : Nat → T α → Nat → α → T α
  | 0, _, _, _ => .leaf
  | fu + 1, .leaf, n, a => cond (Nat.beq n 0) (.node .leaf (some a) .leaf) (cond (Nat.beq (Nat.mod n 2) 1) (.node (T.set fu .leaf (Nat.div n 2) a) none .leaf) (.node .leaf none (T.set fu .leaf (Nat.div (Nat.sub n 1) 2) a)))
  | fu + 1, .node l v r, n, a => cond (Nat.beq n 0) (.node l (some a) r) (cond (Nat.beq (Nat.mod n 2) 1) (.node (T.set fu l (Nat.div n 2) a) v r) (.node l v (T.set fu r (Nat.div (Nat.sub n 1) 2) a)))

def T.del {α : Type} : T α → Nat → T α
  | .leaf, _ => .leaf
  | .node l v r, n => cond (Nat.beq n 0) (.node l none r) (cond (Nat.beq (Nat.mod n 2) 1) (.node (l.del (Nat.div n 2)) v r) (.node l v (r.del (Nat.div (Nat.sub n 1) 2))))

abbrev deep : Nat := 40

/-- The engine's values: a block is called by a name; a slice whose capacity is not told is open. -/
inductive EV where
  | bool (b : Bool)
  | int (k : IntKind) (n : Int)
  | str (s : List Nat)
  | ptr (n off : Nat)
  | nilPtr
  | slice (n off len : Nat) (cap : Option Nat) (es : Nat)
  | nilSlice
  | map (n : Nat)
  | nilMap
  | func (fn : Fn) (first cap : List EV)
  | nilFunc
  | iface (t : TypeId) (v : EV)
  | nilIface
  | agg (cs : List EV)
  | tuple (vs : List EV)
  | any
  /-- A value that only the renaming knows. -/
  | sym (n : Nat)

def EV.cells : EV → List EV
  | .agg cs => cs
  | v => [v]

structure Fr where
  n : Nat
  t : T EV

def Fr.get (f : Fr) (t : Nat) : Option EV := f.t.get t
def Fr.put (f : Fr) (t : Nat) (v : EV) : Option Fr := cond (Nat.blt t f.n) (some ⟨f.n, T.set deep f.t t v⟩) none
def Fr.del (f : Fr) (t : Nat) : Fr := ⟨f.n, f.t.del t⟩

inductive EO where
  | cells (c : T EV) (elem : TypeId) (vr : Bool)
  | map (es : List (EV × EV × Nat)) (clock : Nat)
  | strIter (s : List Nat) (pos : Nat)
  | mapIter (m : Option Nat) (since : Nat) (seen : List Nat) (stepped : Nat)
  | loop (st : LoopState) (pe : Option Code) (f : Fr) (params : List Tmp) (assign body : Code)

structure EH where
  objs : T EO
  next : Nat

def EH.get (h : EH) (n : Nat) : Option EO := h.objs.get n
def EH.set (h : EH) (n : Nat) (o : EO) : EH := ⟨T.set deep h.objs n o, h.next⟩
def EH.del (h : EH) (n : Nat) : EH := ⟨h.objs.del n, h.next⟩

/-- The functions without a body that the engine knows. -/
inductive Ext where
  | count | indexByte | cmp | noEscape
  | makeNoZero (elem : TypeId)

/-- What the engine asks of the program's tables. -/
structure Tab where
  eqst : TypeId → Bool
  ext : FuncId → Option Ext
  und : TypeId → Option TypeDesc
  inf : TypeId → Option TypeInfo
  fn : FuncId → Option Func
  intr : FuncId → Option (List EV → EH → Option (EV × EH))
  /-- What is told of the texts without a face: are they this one? -/
  eqs : Nat → EV → Option Bool := fun _ _ => none
  /-- And how long they are. -/
  lens : Nat → Option Nat := fun _ => none
  /-- Which of the values without a face are numbers, and of which kind. -/
  kinds : Nat → Option IntKind := fun _ => none
  /-- Are these this one? -/
  eqi : Nat → Int → Option Bool := fun _ _ => none

def ofBytes (s : ByteArray) : List Nat := s.data.toList.map (·.toNat)

/-- A constant as the engine has it. -/
def conv1 : Value → Option EV
  | .bool b => some (.bool b)
  | .int k n => some (.int k n)
  | .string s => some (.str (ofBytes s))
  | .pointer none => some .nilPtr
  | .slice none 0 0 => some .nilSlice
  | .map none => some .nilMap
  | .nilFunc => some .nilFunc
  | .nilIface => some .nilIface
  | _ => none

def convL : List Value → Option (List EV)
  | [] => some []
  | v :: l => match conv1 v with
    | some e => match convL l with
      | some es => some (e :: es)
      | none => none
    | none => none

def conv (v : Value) : Option EV :=
  match v with
  | .agg cs => match convL cs.toList with
    | some es => some (.agg es)
    | none => none
  | .tuple vs => match convL vs.toList with
    | some es => some (.tuple es)
    | none => none
  | v => conv1 v

def Tab.zero (tb : Tab) (t : TypeId) : Option EV :=
  match tb.inf t with
  | some i => match i.zero with
    | some v => conv v
    | none => none
  | none => none
def Tab.size (tb : Tab) (t : TypeId) : Option Nat := (tb.inf t).map (·.size)

def isAggD : TypeDesc → Bool
  | .struct _ | .array _ _ => true
  | _ => false

def ev (f : Fr) : Operand → Option EV
  | .tmp t => f.get t
  | .const v => conv v
  | .global _ => none
  | .func g => some (.func (.func g) [] [])

def evs (f : Fr) : List Operand → Option (List EV)
  | [] => some []
  | x :: l => match ev f x with
    | some e => match evs f l with
      | some es => some (e :: es)
      | none => none
    | none => none

/-! ### Cells -/

def readFrom (c : T EV) (off : Nat) : Nat → Option (List EV)
  | 0 => some []
  | k + 1 => match c.get off with
    | some e => match readFrom c (Nat.add off 1) k with
      | some es => some (e :: es)
      | none => none
    | none => none

def writeFrom (c : T EV) (off : Nat) : List EV → T EV
  | [] => c
  | e :: l => writeFrom (T.set deep c off e) (Nat.add off 1) l

def EH.new (h : EH) (nm : Nat) (o : EO) : EH := h.set nm o

def EH.cell (h : EH) (n off : Nat) : Option EV :=
  match h.get n with
  | some (.cells c _ _) => c.get off
  | _ => none
def EH.read (h : EH) (n off k : Nat) : Option (List EV) :=
  match h.get n with
  | some (.cells c _ _) => readFrom c off k
  | _ => none
def EV.one : EV → Bool
  | .agg _ | .tuple _ => false
  | _ => true
def EH.write (h : EH) (n off : Nat) (l : List EV) : Option EH :=
  match h.get n with
  | some (.cells c e vr) => cond (l.all EV.one && (readFrom c off l.length).isSome) (some (h.set n (.cells (writeFrom c off l) e vr))) none
  | _ => none

def loadE (tb : Tab) (h : EH) (t : TypeId) (n off : Nat) : Option EV :=
  match tb.und t with
  | some d => cond (isAggD d) (match tb.size t with
    | some k => (h.read n off k).map .agg
    | none => none) (h.cell n off)
  | none => none

def storeE (tb : Tab) (h : EH) (t : TypeId) (n off : Nat) (v : EV) : Option EH :=
  match tb.size t with
  | some k => cond (Nat.beq v.cells.length k) (h.write n off v.cells) none
  | none => none

def partE (tb : Tab) (t : TypeId) (cs : List EV) (off : Nat) : Option EV :=
  match tb.und t with
  | some d => cond (isAggD d) (match tb.size t with
    | some k => cond (Nat.ble (Nat.add off k) cs.length) (some (.agg ((cs.drop off).take k))) none
    | none => none) cs[off]?
  | none => none

/-! ### Numbers and texts -/

def strLess : List Nat → List Nat → Bool
  | _, [] => false
  | [], _ :: _ => true
  | a :: x, b :: y => Nat.blt a b || (Nat.beq a b && strLess x y)

def strEq : List Nat → List Nat → Bool
  | [], [] => true
  | a :: x, b :: y => Nat.beq a b && strEq x y
  | _, _ => false

def binInt (op : BinOp) (k : IntKind) (a b : Int) : Option EV :=
  match op with
  | .add => some (.int k (k.wrap (a + b)))
  | .sub => some (.int k (k.wrap (a - b)))
  | .mul => some (.int k (k.wrap (a * b)))
  | .quo => if b = 0 then none else some (.int k (k.wrap (a.tdiv b)))
  | .rem => if b = 0 then none else some (.int k (a.tmod b))
  | .and => some (.int k (k.wrap (BitVec.ofInt k.bits a &&& BitVec.ofInt k.bits b).toNat))
  | .or => some (.int k (k.wrap (BitVec.ofInt k.bits a ||| BitVec.ofInt k.bits b).toNat))
  | .xor => some (.int k (k.wrap (BitVec.ofInt k.bits a ^^^ BitVec.ofInt k.bits b).toNat))
  | .andNot => some (.int k (k.wrap (BitVec.ofInt k.bits a &&& ~~~ BitVec.ofInt k.bits b).toNat))
  | .eql => some (.bool (decide (a = b)))
  | .neq => some (.bool (!decide (a = b)))
  | .lss => some (.bool (decide (a < b)))
  | .leq => some (.bool (decide (a ≤ b)))
  | .gtr => some (.bool (decide (b < a)))
  | .geq => some (.bool (decide (b ≤ a)))
  | _ => none

def shiftInt (op : BinOp) (k : IntKind) (a b : Int) : Option EV :=
  if b < 0 then none else
  let n := min b.toNat k.bits
  match op with
  | .shl => some (.int k (k.wrap (a * 2 ^ n)))
  | .shr => some (.int k (a.fdiv (2 ^ n)))
  | _ => none

def binStr (op : BinOp) (a b : List Nat) : Option EV :=
  match op with
  | .add => cond (Nat.ble (a.length + b.length) 1099511627776) (some (.str (a ++ b))) none
  | .eql => some (.bool (strEq a b))
  | .neq => some (.bool (!strEq a b))
  | .lss => some (.bool (strLess a b))
  | .leq => some (.bool (strLess a b || strEq a b))
  | .gtr => some (.bool (!(strLess a b || strEq a b)))
  | .geq => some (.bool (!strLess a b))
  | _ => none

/-- Is a number without a face this one? -/
def eqInt (tb : Tab) (n : Nat) (k : IntKind) (c : Int) : Option Bool :=
  match tb.kinds n with
  | some j => if j = k then tb.eqi n c else none
  | none => none

/-- Are two values of one cell equal, by '=='? (Interface values: of one type, of one cell.) -/
def eqOne (tb : Tab) (d : TypeDesc) : EV → EV → Option Bool
  | .bool a, .bool b => match d with
    | .bool => some (a == b)
    | _ => none
  | .int j a, .int k b => match d with
    | .int _ => if j = k then some (decide (a = b)) else none
    | _ => none
  | .str a, .str b => match d with
    | .string => some (strEq a b)
    | _ => none
  | .ptr m o, .ptr n p => match d with
    | .pointer e => match tb.size e with
      | some k => if m = n ∧ k ≠ 0 then some (decide (o = p)) else none
      | none => none
    | _ => none
  | .nilPtr, .nilPtr => match d with
    | .pointer _ => some true
    | _ => none
  | .nilPtr, .ptr _ _ => match d with
    | .pointer _ => some false
    | _ => none
  | .ptr _ _, .nilPtr => match d with
    | .pointer _ => some false
    | _ => none
  | .nilSlice, .nilSlice => match d with
    | .slice _ => some true
    | _ => none
  | .nilSlice, .slice .. => match d with
    | .slice _ => some false
    | _ => none
  | .slice .., .nilSlice => match d with
    | .slice _ => some false
    | _ => none
  | .nilMap, .nilMap => match d with
    | .map _ _ => some true
    | _ => none
  | .nilMap, .map _ => match d with
    | .map _ _ => some false
    | _ => none
  | .map _, .nilMap => match d with
    | .map _ _ => some false
    | _ => none
  | .nilFunc, .nilFunc => match d with
    | .func _ _ _ => some true
    | _ => none
  | .nilFunc, .func _ _ _ => match d with
    | .func _ _ _ => some false
    | _ => none
  | .func _ _ _, .nilFunc => match d with
    | .func _ _ _ => some false
    | _ => none
  | .nilIface, .nilIface => match d with
    | .interface _ => some true
    | _ => none
  | .nilIface, .iface _ _ => match d with
    | .interface _ => some false
    | _ => none
  | .iface _ _, .nilIface => match d with
    | .interface _ => some false
    | _ => none
  | .sym n, y => match d with
    | .string => tb.eqs n y
    | .int _ => match y with
      | .int k c => eqInt tb n k c
      | _ => none
    | _ => none
  | .str s, .sym n => match d with
    | .string => tb.eqs n (.str s)
    | _ => none
  | .int k c, .sym n => match d with
    | .int _ => eqInt tb n k c
    | _ => none
  | _, _ => none

def eqFields (tb : Tab) (xs ys : List EV) : List Field → Option Bool
  | [] => some true
  | f :: fs => if f.name = "_" then none else
    match tb.und f.type, xs[f.offset]?, ys[f.offset]? with
    | some d, some x, some y => match (match d with | .interface _ => none | d => eqOne tb d x y) with
      | some true => eqFields tb xs ys fs
      | some false => some false
      | none => none
    | _, _, _ => none

def eqE (tb : Tab) (t : TypeId) (x y : EV) : Option Bool :=
  match tb.und t with
  | some d => match d, x, y with
    | .struct fs, .agg xs, .agg ys => cond (tb.eqst t) (eqFields tb xs ys fs.toList) none
    | d, x, y => eqOne tb d x y
  | none => none

def binE (tb : Tab) (op : BinOp) (t : TypeId) (x y : EV) : Option EV :=
  match x, y with
  | .int k a, .int k' b => match op with
    | .shl => shiftInt .shl k a b
    | .shr => shiftInt .shr k a b
    | op => if k = k' then binInt op k a b else none
  | .str a, .str b => binStr op a b
  | x, y => match op with
    | .eql => (eqE tb t x y).map .bool
    | .neq => (eqE tb t x y).map fun b => .bool (!b)
    | _ => none

/-- Two nil values of an interface type: one of them has to be written. -/
def guardE (x y : Operand) (a b : EV) : Bool :=
  match a, b with
  | .nilIface, .nilIface => (match x with | .const _ => true | _ => false) || (match y with | .const _ => true | _ => false)
  | _, _ => true

def unE (op : UnOp) (x : EV) : Option EV :=
  match op, x with
  | .not, .bool b => some (.bool (!b))
  | .neg, .int k n => some (.int k (k.wrap (0 - n)))
  | _, _ => none

/-! ### Building -/

def place (l : List (Nat × Nat)) (i : Nat) : Option (Nat × Nat) := l[i]?

def putCells (cells : List EV) (off : Nat) (vs : List EV) : List EV := cells.take off ++ vs ++ cells.drop (off + vs.length)

def fillE (pl : Nat → Option (Nat × Nat)) (cells : List EV) : List (Nat × EV) → Option (List EV)
  | [] => some cells
  | (i, v) :: rest => match pl i with
    | some (off, size) => if v.cells.length = size ∧ off + v.cells.length ≤ cells.length then fillE pl (putCells cells off v.cells) rest else none
    | none => none

def partsE (f : Fr) : List (Nat × Operand) → Option (List (Nat × EV))
  | [] => some []
  | (i, x) :: l => match ev f x with
    | some e => match partsE f l with
      | some es => some ((i, e) :: es)
      | none => none
    | none => none

def fieldPlaces (tb : Tab) : List Field → Option (List (Nat × Nat))
  | [] => some []
  | f :: fs => match tb.size f.type with
    | some k => match fieldPlaces tb fs with
      | some l => some ((f.offset, k) :: l)
      | none => none
    | none => none

def buildE (tb : Tab) (t : TypeId) (parts : List (Nat × EV)) : Option EV :=
  match tb.zero t with
  | some z => match tb.und t with
    | some (.struct fs) => match fieldPlaces tb fs.toList with
      | some pl => (fillE (fun i => pl[i]?) z.cells parts).map .agg
      | none => none
    | some (.array _ e) => match tb.size e with
      | some k => (fillE (fun i => some (i * k, k)) z.cells parts).map .agg
      | none => none
    | _ => none
  | none => none

def repl (z : List EV) : Nat → List EV
  | 0 => []
  | n + 1 => z ++ repl z n

def rowOf (l : List EV) : T EV := writeFrom .leaf 0 l

/-! ### Operations -/

/-- What an operation comes to. -/
inductive OR where
  | val (e : EV) (h : EH)
  | skip (h : EH)
  | enter (f : FuncId) (args : List EV)
  | round (l : Nat) (args : List EV)

def intIx : EV → Option Int
  | .int _ n => some n
  | _ => none

def boundE (lo : Option EV) (dflt : Nat) : Option Nat :=
  match lo with
  | none => some dflt
  | some (.int _ n) => if 0 ≤ n then some n.toNat else none
  | some _ => none

def evo (f : Fr) : Option Operand → Option (Option EV)
  | none => some none
  | some x => (ev f x).map some

def sliceOf (n off es l h m : Nat) (cap : Option Nat) : EV := cond (Nat.beq m l) (.slice n off 0 (some 0) es) (.slice n (off + l * es) (h - l) cap es)

def sliceE (tb : Tab) (hp : EH) (t : TypeId) (x : EV) (lo hi mx : Option EV) : Option EV :=
  match tb.und t with
  | some .string => match x, mx with
    | .str s, none => match boundE lo 0, boundE hi s.length with
      | some l, some h => if l ≤ h ∧ h ≤ s.length then some (.str ((s.take h).drop l)) else none
      | _, _ => none
    | _, _ => none
  | some (.slice e) => match tb.size e with
    | none => none
    | some es => match x with
      | .nilSlice => (match mx with
        | none => (match boundE lo 0, boundE hi 0 with
          | some 0, some 0 => some .nilSlice
          | _, _ => none)
        | some m => (match hi with
          | some hi1 => (match boundE lo 0, boundE (some hi1) 0, boundE (some m) 0 with
            | some 0, some 0, some 0 => some .nilSlice
            | _, _, _ => none)
          | none => none))
      | .slice n off len cap es' => if es' = es then (match boundE lo 0, boundE hi len with
        | some l, some h => (match mx with
          | none => (match cap with
            | none => if l ≤ h ∧ h ≤ len then some (.slice n (off + l * es) (h - l) none es) else none
            | some c => if l ≤ h ∧ h ≤ c then some (sliceOf n off es l h c (some (c - l))) else none)
          | some m => (match hi, boundE (some m) 0 with
            | some _, some m => if l ≤ h ∧ h ≤ m ∧ m ≤ (cap.getD len) then some (sliceOf n off es l h m (some (m - l))) else none
            | _, _ => none))
        | _, _ => none) else none
      | _ => none
  | some (.array k e) => match x, tb.size e, mx with
    | .ptr n off, some es, none => match boundE lo 0, boundE hi k with
      | some l, some h => if l ≤ h ∧ h ≤ k ∧ 0 < k * es ∧ (hp.cell n (off + (k * es - 1))).isSome = true then some (sliceOf n off es l h k (some (k - l))) else none
      | _, _ => none
    | _, _, _ => none
  | _ => none

def keyEq (d : TypeDesc) (a b : EV) : Option Bool :=
  match d, a, b with
  | .int _, .int j x, .int k y => if j = k then some (decide (x = y)) else none
  | .string, .str x, .str y => some (strEq x y)
  | .struct _, _, _ => none
  | _, _, _ => none

def eqAll (tb : Tab) (xs ys : List EV) (fs : List Field) : Option Bool := eqFields tb xs ys fs

def keyEqS (tb : Tab) (d : TypeDesc) (a b : EV) : Option Bool :=
  match a, b with
  | .sym n, b => match d with
    | .string => eqOne tb d (.sym n) b
    | .int _ => eqOne tb d (.sym n) b
    | _ => none
  | a, .sym n => match d with
    | .string => eqOne tb d a (.sym n)
    | .int _ => eqOne tb d a (.sym n)
    | _ => none
  | a, b => keyEq d a b

def keyEqT (tb : Tab) (t : TypeId) (a b : EV) : Option Bool :=
  match tb.und t with
  | some d => match d, a, b with
    | .struct fs, .agg xs, .agg ys => cond (tb.eqst t) (eqFields tb xs ys fs.toList) none
    | d, a, b => keyEqS tb d a b
  | none => none

def findE (tb : Tab) (t : TypeId) (k : EV) : List (EV × EV × Nat) → Nat → Option (Option (Nat × EV))
  | [], _ => some none
  | (k', v, _) :: es, i => match keyEqT tb t k k' with
    | some true => some (some (i, v))
    | some false => findE tb t k es (i + 1)
    | none => none

def setVal (k v : EV) : List (EV × EV × Nat) → Nat → List (EV × EV × Nat)
  | [], _ => []
  | (k', v', b) :: es, i => cond (Nat.beq i 0) ((k, v, b) :: es) ((k', v', b) :: setVal k v es (i - 1))

def keyOk (tb : Tab) (t : TypeId) (k : EV) : Bool :=
  match tb.und t, k with
  | some (.int _), .int _ _ => true
  | some .string, .str _ => true
  | some .string, .sym n => (tb.eqs n (.str [])).isSome
  | some (.int _), .sym n => (tb.kinds n).isSome
  | some (.struct fs), .agg xs => fs.toList.all fun f => match tb.und f.type, xs[f.offset]? with
    | some (.int _), some (.int _ _) => true
    | some .string, some (.str _) => true
    | some .bool, some (.bool _) => true
    | _, _ => false
  | _, _ => false

def lookupE (tb : Tab) (h : EH) (t : TypeId) (m k : EV) (ok : Bool) : Option EV :=
  match tb.und t with
  | some (.map kt et) => cond (keyOk tb kt k) (
    match (match m with
      | .nilMap => some []
      | .map n => match h.get n with
        | some (.map es _) => some es
        | _ => none
      | _ => none) with
    | some es => match findE tb kt k es 0 with
      | some (some (_, v)) => some (cond ok (.tuple [v, .bool true]) v)
      | some none => match tb.zero et with
        | some z => some (cond ok (.tuple [z, .bool false]) z)
        | none => none
      | none => none
    | none => none) none
  | _ => none

def cellSame : EV → EV → Bool
  | .int j a, .int k b => decide (j = k) && decide (a = b)
  | .str a, .str b => strEq a b
  | .bool a, .bool b => a == b
  | _, _ => false

def cellsSame : List EV → List EV → Bool
  | [], [] => true
  | a :: x, b :: y => cellSame a b && cellsSame x y
  | _, _ => false

/-- Are two keys alike bit by bit? -/
def keySame : EV → EV → Bool
  | .agg a, .agg b => cellsSame a b
  | .sym a, .sym b => Nat.beq a b
  | a, b => cellSame a b

def keyAt : List (EV × EV × Nat) → Nat → EV
  | [], _ => .nilPtr
  | e :: es, i => cond (Nat.beq i 0) e.1 (keyAt es (i - 1))

def mapPutE (tb : Tab) (h : EH) (t : TypeId) (m k v : EV) : Option EH :=
  match tb.und t with
  | some (.map kt _) => cond (keyOk tb kt k) (
    match m with
    | .map n => match h.get n with
      | some (.map es clock) => match findE tb kt k es 0 with
        | some (some (i, _)) => cond (keySame (keyAt es i) k) (some (h.set n (.map (setVal k v es i) clock))) none
        | some none => some (h.set n (.map (es ++ [(k, v, clock)]) (clock + 1)))
        | none => none
      | _ => none
    | _ => none) none
  | _ => none

def mapDelE (tb : Tab) (h : EH) (t : TypeId) (m k : EV) : Option EH :=
  match tb.und t with
  | some (.map kt _) => cond (keyOk tb kt k) (
    match m with
    | .nilMap => some h
    | .map n => match h.get n with
      | some (.map es clock) => match findE tb kt k es 0 with
        | some (some (i, _)) => some (h.set n (.map (es.eraseIdx i) clock))
        | some none => some h
        | none => none
      | _ => none
    | _ => none) none
  | _ => none

def bytesOf (l : List Nat) : ByteArray := ⟨(l.map UInt8.ofNat).toArray⟩
/-- The rune that stands there, and its width. -/
def nextStr (s : List Nat) (pos : Nat) : Option (Option (Nat × Nat)) :=
  match (s.drop pos) with
  | [] => some none
  | b :: _ => if b < 128 then some (some (b, 1)) else some (some (Utf8.decode (bytesOf s) pos))

def zeroRow (tb : Tab) (e : TypeId) (n : Nat) : Option (List EV) :=
  if n = 0 then some [] else match tb.zero e, tb.size e with
    | some z, some k => cond (Nat.beq z.cells.length k && Nat.blt 0 k && z.cells.all EV.one) (some (repl z.cells n)) none
    | _, _ => none

/-- The new name of a row is 'nm'. -/
def appendE (_tb : Tab) (h : EH) (nm : Nat) (e : TypeId) (es : Nat) (s : EV) (news : List EV) (m : Nat) : Option (EV × EH) :=
      match s with
      | .nilSlice => if m = 0 then some (.nilSlice, h) else cond (Nat.ble m 1073741824) (some (.slice nm 0 m none es, h.set nm (.cells (rowOf news) e false))) none
      | .slice n off len cap es' => if es' = es ∧ len + m ≤ 1073741824 then (
          if m = 0 then some (s, h) else
          match h.get n with
          | some (.cells c e' vr) => match readFrom c off (len * es) with
            | some old => match cap with
              | some k => if len + m ≤ k then some (.slice n off (len + m) cap es, h.set n (.cells (writeFrom c (off + len * es) news) e' vr))
                  else some (.slice nm 0 (len + m) none es, h.set nm (.cells (rowOf (old ++ news)) e false))
              | none => if e' = e then some (.slice nm 0 (len + m) none es, (h.del n).set nm (.cells (rowOf (old ++ news)) e false)) else none
            | none => none
          | _ => none) else none
      | _ => none

def sourceE (h : EH) (x : EV) (es : Nat) : Option (List EV × Nat) :=
  match x with
  | .nilSlice => some ([], 0)
  | .slice n off len _ es' => if len = 0 then some ([], 0) else if es' = es then (h.read n off (len * es)).map (·, len) else none
  | .str s => some (s.map fun b => .int .u8 (Int.ofNat b), s.length)
  | _ => none

def zeroOk (tb : Tab) (e : TypeId) (k : Nat) : Bool :=
  match tb.zero e with
  | some z => Nat.beq z.cells.length k
  | none => false

def minE : List EV → Option EV
  | [.int k a, .int _ b] => some (.int k (if b < a then b else a))
  | _ => none
def maxE : List EV → Option EV
  | [.int k a, .int _ b] => some (.int k (if a < b then b else a))
  | [.str a, .str b] => some (.str (cond (strLess a b) b a))
  | _ => none

def lenE (tb : Tab) (h : EH) (t : TypeId) (x : EV) : Option EV :=
  match tb.und t with
  | some d => match d, x with
    | .string, .str s => some (.int .i64 s.length)
    | .string, .sym k => match tb.lens k with
      | some n => some (.int .i64 n)
      | none => none
    | .array n _, _ => some (.int .i64 n)
    | .slice _, .slice _ _ n _ _ => some (.int .i64 n)
    | .slice _, .nilSlice => some (.int .i64 0)
    | .map _ _, .nilMap => some (.int .i64 0)
    | .map _ _, .map n => match h.get n with
      | some (.map es _) => some (.int .i64 es.length)
      | _ => none
    | _, _ => none
  | none => none

def bytesE : List EV → Option (List Nat)
  | [] => some []
  | .int .u8 b :: l => match bytesE l with
    | some bs => some (Nat.mod b.toNat 256 :: bs)
    | none => none
  | _ :: _ => none

def builtinE (tb : Tab) (h : EH) (nm : Nat) (b : Builtin) (ts : List TypeId) (args : List EV) : Option OR :=
  match b, ts, args with
  | .len, t :: _, x :: _ => (lenE tb h t x).map (.val · h)
  | .cap, t :: _, x :: _ => match tb.und t, x with
    | some (.slice _), .slice _ _ _ (some c) _ => some (.val (.int .i64 c) h)
    | some (.slice _), .nilSlice => some (.val (.int .i64 0) h)
    | _, _ => none
  | .min, _, args => (minE args).map (.val · h)
  | .max, _, args => (maxE args).map (.val · h)
  | .append, t :: u :: _, s :: x :: _ => match tb.und t, tb.und u with
    | some (.slice e), some d => (match tb.inf e with
      | some i => cond (Nat.ble i.bytes 1024 && Nat.blt 0 i.size && zeroOk tb e i.size) (match d with
        | .int _ => (match x with
          | .int _ k => if 0 ≤ k ∧ k ≤ 1073741824 then (match zeroRow tb e k.toNat with
            | some z => (match appendE tb h nm e i.size s z k.toNat with
              | some (v, h') => some (.val v h')
              | none => none)
            | none => none) else none
          | _ => none)
        | _ => match sourceE h x i.size with
          | some (news, m) => cond (Nat.beq news.length (m * i.size)) (match appendE tb h nm e i.size s news m with
            | some (v, h') => some (.val v h')
            | none => none) none
          | none => none) none
      | none => none)
    | _, _ => none
  | .copy, t :: _, d :: x :: _ => match tb.und t with
    | some (.slice e) => match tb.size e with
      | some es => match sourceE h x es, d with
        | some (news, m), .slice n off len _ es' => if es' = es ∧ news.length = m * es then (
            match h.write n off (news.take (Nat.min m len * es)) with
            | some h' => some (.val (.int .i64 (Nat.min m len)) h')
            | none => none) else none
        | some (news, m), .nilSlice => if news.length = m * es then some (.val (.int .i64 0) h) else none
        | _, _ => none
      | none => none
    | _ => none
  | .unsafeSliceData, _, [.nilSlice] => some (.val .nilPtr h)
  | .unsafeSliceData, _, [.slice n off len _ _] => if len = 0 then none else some (.val (.ptr n off) h)
  | .unsafeString, _ :: _, [.nilPtr, .int _ k] => if k = 0 then some (.val (.str []) h) else none
  | .unsafeString, t :: _, [.ptr n off, .int _ k] => if 0 < k ∧ k ≤ 1099511627776 then (match h.get n with
      | some (.cells c e _) => (match tb.und t, tb.size e, readFrom c off k.toNat with
        | some (.pointer u), some 1, some l => if u = e then (match bytesE l with
          | some bs => some (.val (.str bs) (h.del n))
          | none => none) else none
        | _, _, _ => none)
      | _ => none) else none
  | .delete, t :: _, m :: k :: _ => (mapDelE tb h t m k).map (.val (.tuple []) ·)
  | .clear, t :: _, x :: _ => match tb.und t, x with
    | some (.slice e), .slice n off len _ es' => match tb.zero e, tb.size e with
      | some z, some es => if es = es' then (h.write n off (repl z.cells len)).map (.val (.tuple []) ·) else none
      | _, _ => none
    | some (.slice _), .nilSlice => some (.val (.tuple []) h)
    | _, _ => none
  | _, _, _ => none

def convertE (tb : Tab) (h : EH) (nm : Nat) (src dst : TypeId) (x : EV) : Option (EV × EH) :=
  match tb.und src, tb.und dst with
  | some s, some d => match s, d, x with
    | _, .int k, .int _ n => some (.int k (k.wrap n), h)
    | _, .string, .str s => some (.str s, h)
    | .pointer _, .unsafePointer, .nilPtr => some (.nilPtr, h)
    | .pointer t, .unsafePointer, .ptr n off => match tb.size t, h.cell n off with
      | some k, some _ => if k = 0 then none else some (.ptr n off, h)
      | _, _ => none
    | .unsafePointer, .pointer _, .nilPtr => some (.nilPtr, h)
    | .unsafePointer, .pointer u, .ptr n 0 => match h.get n, tb.size u with
      | some (.cells _ e true), some k => if e = u ∧ k ≠ 0 then some (.ptr n 0, h) else none
      | _, _ => none
    | .slice _, .slice e, .slice n off len cap es => if src = dst then (match tb.und e with
      | some (.int .u8) => (match h.get n with
        | some (.cells t0 e0 vr) => (match tb.und e0 with
          | some (.int .u8) => some (.slice n off len cap es, h.set n (.cells t0 e0 vr))
          | _ => none)
        | _ => none)
      | _ => none) else none
    | .string, .slice e, .str s => match tb.und e with
      | some (.int .u8) => cond (Nat.ble s.length 1099511627776) (some (.slice nm 0 s.length none 1, h.set nm (.cells (rowOf (s.map fun b => .int .u8 (Int.ofNat b))) e false))) none
      | _ => none
    | .slice e, .string, x => match tb.und e with
      | some (.int .u8) => match x with
        | .nilSlice => some (.str [], h)
        | .slice n off len _ _ => if len = 0 then some (.str [], h) else match h.read n off len with
          | some l => match bytesE l with
            | some bs => some (.str bs, h)
            | none => none
          | none => none
        | _ => none
      | _ => none
    | _, _, _ => none
  | _, _ => none

def callFuncE (_tb : Tab) (f : FuncId) (args : List EV) : Option OR := some (.enter f args)

def methodE (tb : Tab) (t : TypeId) (name : String) : Option (FuncId × Bool) :=
  match tb.inf t with
  | some i => match i.methods.toList.find? (·.name == name) with
    | some m => cond m.path.isEmpty m.func none
    | none => none
  | none => none

/-- The receiver of a method without a path. -/
def recvE (tb : Tab) (h : EH) (t : TypeId) (v : EV) (p : Bool) : Option EV :=
  match tb.und t with
  | some (.pointer elem) => cond p (some v) (match v with
    | .ptr n off => loadE tb h elem n off
    | _ => none)
  | some _ => cond p none (some v)
  | none => none

def invokeE (tb : Tab) (h : EH) (fn : Fn) (first cap args : List EV) : Option OR :=
  match fn with
  | .func f => some (.enter f (first ++ args ++ cap))
  | .yield l => match first, cap with
    | [], [] => some (.round l args)
    | _, _ => none
  | .method name => match first ++ args with
    | .iface t v :: rest => match methodE tb t name with
      | some (f, p) => match recvE tb h t v p with
        | some r => some (.enter f (r :: rest))
        | none => none
      | none => none
    | _ => none
  | .via t path f p => match tb.und t, first ++ args with
    | some (.pointer _), x :: rest => cond (path.isEmpty && p) (some (.enter f (x :: rest))) none
    | _, _ => none
  | .methodOf _ _ => none

def callE1 (tb : Tab) (h : EH) (nm : Nat) (f : Fr) (c : Call) : Option OR :=
  match evs f c.args.toList with
  | some args => match c.callee with
    | .builtin b => builtinE tb h nm b c.argTypes.toList args
    | .value g => match ev f g with
      | some (.func fn first cap) => invokeE tb h fn first cap args
      | _ => none
    | .invoke r name => match ev f r with
      | some x => invokeE tb h (.method name) [] [] (x :: args)
      | none => none
  | none => none

/-- An operation; a block that it makes is called 'nm'. -/
def opE (tb : Tab) (h : EH) (nm : Nat) (f : Fr) (o : Oper) : Option OR :=
  match o.op with
  | .move x | .assign x => (ev f x).map (.val · h)
  | .pick c a b => match ev f c with
    | some (.bool t) => (cond t (ev f a) (ev f b)).map (.val · h)
    | _ => none
  | .alloc e => match tb.zero e with
    | some z => cond (z.cells.all EV.one && decide (tb.size e = some z.cells.length)) (some (.val (.ptr nm 0) (h.set nm (.cells (rowOf z.cells) e true)))) none
    | none => none
  | .box e x => match ev f x with
    | some v => cond (v.cells.all EV.one && decide (tb.size e = some v.cells.length)) (some (.val (.ptr nm 0) (h.set nm (.cells (rowOf v.cells) e true)))) none
    | none => none
  | .build t ps => match partsE f ps.toList with
    | some l => (buildE tb t l).map (.val · h)
    | none => none
  | .buildSlice t len ps => match tb.und t with
    | some (.slice e) => match tb.size e, zeroRow tb e len, partsE f ps.toList with
      | some es, some z, some l => match fillE (fun i => some (i * es, es)) z l with
        | some cs => if len * es ≤ 2 ^ 24 ∧ cs.all EV.one = true then some (.val (.slice nm 0 len (some len) es) (h.set nm (.cells (rowOf cs) e false))) else none
        | none => none
      | _, _, _ => none
    | _ => none
  | .load t a => match ev f a with
    | some (.ptr n off) => (loadE tb h t n off).map (.val · h)
    | _ => none
  | .store t a x => match ev f a, ev f x with
    | some (.ptr n off), some v => (storeE tb h t n off v).map .skip
    | _, _ => none
  | .nilCheck x => match ev f x with
    | some (.ptr n off) => some (.val (.ptr n off) h)
    | some (.func (.func g) fi ca) => some (.val (.func (.func g) fi ca) h)
    | some (.iface t v) => some (.val (.iface t v) h)
    | _ => none
  | .binOp op t x y _ => match ev f x, ev f y with
    | some a, some b => cond (guardE x y a b) ((binE tb op t a b).map (.val · h)) none
    | _, _ => none
  | .unOp op _ x => match ev f x with
    | some a => (unE op a).map (.val · h)
    | none => none
  | .convert s d x => match ev f x with
    | some a => match convertE tb h nm s d a with
      | some (v, h') => some (.val v h')
      | none => none
    | none => none
  | .makeInterface t x => match ev f x, tb.und t with
    | some v, some d => (match d with
      | .interface _ => none
      | _ => some (.val (.iface t v) h))
    | _, _ => none
  | .makeFunc fn fi ca => match fn with
    | .yield _ => none
    | fn => match evs f fi.toList, evs f ca.toList with
      | some a, some b => some (.val (.func fn a b) h)
      | _, _ => none
  | .makeMap _ none => some (.val (.map nm) (h.set nm (.map [] 0)))
  | .makeSlice t l c => match tb.und t, ev f l, ev f c with
    | some (.slice e), some (.int _ l), some (.int _ c) => match tb.size e, tb.inf e with
      | some es, some i => if 0 ≤ l ∧ l ≤ c ∧ c ≤ 1099511627776 ∧ c * i.bytes ≤ 1099511627776 then (match zeroRow tb e c.toNat with
        | some z => some (.val (.slice nm 0 l.toNat (some c.toNat) es) (h.set nm (.cells (rowOf z) e false)))
        | none => none) else none
      | _, _ => none
    | _, _, _ => none
  | .slice t x lo hi mx => match ev f x, evo f lo, evo f hi, evo f mx with
    | some x, some lo, some hi, some mx => (sliceE tb h t x lo hi mx).map (.val · h)
    | _, _, _, _ => none
  | .fieldAddr s x i => match tb.und s, ev f x with
    | some (.struct fs), some (.ptr n off) => match fs[i]? with
      | some fd => match tb.size fd.type with
        | some k => if k = 0 then none else some (.val (.ptr n (off + fd.offset)) h)
        | none => none
      | none => none
    | _, _ => none
  | .field t x i => match tb.und t, ev f x with
    | some (.struct fs), some (.agg cs) => match fs[i]? with
      | some fd => (partE tb fd.type cs fd.offset).map (.val · h)
      | none => none
    | _, _ => none
  | .indexAddr t x i => match tb.und t, ev f x, ev f i with
    | some (.slice e), some (.slice n off len _ es), some (.int _ k) => if 0 ≤ k ∧ k < len ∧ tb.size e = some es then some (.val (.ptr n (off + k.toNat * es)) h) else none
    | some (.array len e), some (.ptr n off), some (.int _ k) => match tb.size e with
      | some es => if 0 ≤ k ∧ k < len then some (.val (.ptr n (off + k.toNat * es)) h) else none
      | none => none
    | _, _, _ => none
  | .index t x i => match tb.und t, ev f x, ev f i with
    | some .string, some (.str s), some (.int _ k) => if 0 ≤ k then (match s[k.toNat]? with
      | some b => some (.val (.int .u8 b) h)
      | none => none) else none
    | some (.array len e), some (.agg cs), some (.int _ k) => match tb.size e with
      | some es => if 0 ≤ k ∧ k < len then (partE tb e cs (k.toNat * es)).map (.val · h) else none
      | none => none
    | _, _, _ => none
  | .lookup t x k ok => match ev f x, ev f k with
    | some m, some k => (lookupE tb h t m k ok).map (.val · h)
    | _, _ => none
  | .mapUpdate t m k v | .insert t m k v => match ev f m, ev f k, ev f v with
    | some m, some k, some v => (mapPutE tb h t m k v).map .skip
    | _, _, _ => none
  | .range t x => match tb.und t, ev f x with
    | some .string, some (.str s) => some (.val (.ptr nm 0) (h.set nm (.strIter s 0)))
    | some (.map _ _), some .nilMap => some (.val (.ptr nm 0) (h.set nm (.mapIter none 0 [] 0)))
    | some (.map _ _), some (.map m) => match h.get m with
      | some (.map _ clock) => some (.val (.ptr nm 0) (h.set nm (.mapIter (some m) clock [] clock)))
      | _ => none
    | _, _ => none
  | .next it isStr => match ev f it with
    | some (.ptr n 0) => match h.get n, isStr with
      | some (.strIter s pos), true => match nextStr s pos with
        | some none => some (.val (.tuple [.bool false]) h)
        | some (some (c, wd)) => some (.val (.tuple [.bool true, .int .i64 pos, .int .i32 c]) (h.set n (.strIter s (pos + wd))))
        | none => none
      | some (.mapIter none _ _ _), false => some (.val (.tuple [.bool false]) h)
      | some (.mapIter (some m) since seen last), false => match h.get m with
        | some (.map es clock) =>
          let left := es.filter fun e => !seen.contains e.2.2
          if !seen.isEmpty && !es.isEmpty && es.all (fun e => last ≤ e.2.2) then none else
          match left with
          | [] => some (.val (.tuple [.bool false]) h)
          | [(k, v, b)] => if b < since then some (.val (.tuple [.bool true, k, v]) (h.set n (.mapIter (some m) since (seen ++ [b]) clock))) else none
          | _ => none
        | _ => none
      | _, _ => none
    | _ => none
  | .entry it => match ev f it with
    | some (.ptr n 0) => match h.get n with
      | some (.mapIter (some m) _ seen stepped) => match h.get m, seen.getLast? with
        | some (.map es clock), some b => if clock = stepped then (es.find? fun e => Nat.beq e.2.2 b).map fun e => .val (.tuple [e.1, e.2.1]) h else none
        | _, _ => none
      | _ => none
    | _ => none
  | .typeAssert x _ t ok => match tb.und t, ev f x with
    | some d, some x => (match d with
      | .interface _ => none
      | _ => match x with
        | .iface u v => if u = t then some (.val (cond ok (.tuple [v, .bool true]) v) h) else if ok then (tb.zero t).map fun z => .val (.tuple [z, .bool false]) h else none
        | .nilIface => if ok then (tb.zero t).map fun z => .val (.tuple [z, .bool false]) h else none
        | _ => none)
    | _, _ => none
  | .extract x i => match ev f x with
    | some (.tuple vs) => (vs[i]?).map (.val · h)
    | _ => none
  | .call c => callE1 tb h nm f c
  | _ => none

/-! ### Code -/

inductive XR where
  | fail
  | normal (f : Fr) (h : EH)
  | exit (id : Nat) (f : Fr) (h : EH)
  | goto (l : Nat) (f : Fr) (h : EH)
  | ret (f : Fr) (h : EH)

def initFr (n : Nat) (args : List EV) : Fr := ⟨n, writeFrom .leaf 0 args⟩

def resE (tb : Tab) (f : Fr) (h : EH) : List ResultVar → Option (List EV)
  | [] => some []
  | .tmp t :: l => match f.get t, resE tb f h l with
    | some e, some es => some (e :: es)
    | _, _ => none
  | .cell a t :: l => match f.get a with
    | some (.ptr n off) => match loadE tb h t n off, resE tb f h l with
      | some e, some es => some (e :: es)
      | _, _ => none
    | _ => none

def retE (vs : List EV) : EV :=
  match vs with
  | [v] => v
  | vs => .tuple vs

abbrev Ex := Bool → Code → Fr → EH → XR

def countE (c : Nat) : List Nat → Nat
  | [] => 0
  | b :: s => cond (Nat.beq b c) (Nat.add (countE c s) 1) (countE c s)

def indexE (c : Nat) : List Nat → Nat → Option Nat
  | [], _ => none
  | b :: s, i => cond (Nat.beq b c) (some i) (indexE c s (Nat.add i 1))

def cmpE : List Nat → List Nat → Int
  | [], [] => 0
  | [], _ :: _ => -1
  | _ :: _, [] => 1
  | a :: x, b :: y => cond (Nat.blt a b) (-1) (cond (Nat.blt b a) 1 (cmpE x y))

def extE (x : Ext) (args : List EV) (h : EH) : Option (EV × EH) :=
  match x, args with
  | .count, [.str s, .int .u8 c] => some (.int .i64 (Int.ofNat (countE (Nat.mod c.toNat 256) s)), h)
  | .indexByte, [.str s, .int .u8 c] => some (.int .i64 (match indexE (Nat.mod c.toNat 256) s 0 with
    | some i => Int.ofNat i
    | none => -1), h)
  | .cmp, [.str a, .str b] => some (.int .i64 (cmpE a b), h)
  | .noEscape, [v] => some (v, h)
  | .makeNoZero e, [.int .i64 n] => if 0 ≤ n ∧ n ≤ 1099511627776 then some (.slice h.next 0 n.toNat none 1, ⟨T.set deep h.objs h.next (.cells .leaf e false), h.next + 1⟩) else none
  | _, _ => none

def callWith (tb : Tab) (ex : Ex) (g : FuncId) (args : List EV) (h : EH) : Option (EV × EH) :=
  match tb.intr g with
  | some r => r args h
  | none => match tb.fn g with
    | some fn => match fn.body with
      | some c => cond (Nat.ble args.length fn.ntmps) (match ex false c (initFr fn.ntmps args) h with
        | .normal f h' | .ret f h' => match resE tb f h' fn.results.toList with
          | some vs => some (retE vs, h')
          | none => none
        | _ => none) none
      | none => match tb.ext g with
        | some x => extE x args h
        | none => none
    | none => none

def putAll (f : Fr) : List Tmp → List EV → Option Fr
  | [], [] => some f
  | t :: ts, v :: vs => match f.put t v with
    | some f' => putAll f' ts vs
    | none => none
  | _, _ => none

/-- The end of a round: was there a jump? -/
def finE (l : Nat) (j : Option Code) (h : EH) : Option (EV × EH) :=
  match h.get l with
  | some (.loop .busy _ fl ps asg bd) => some (.bool j.isNone, h.set l (.loop (if j.isNone then .ready else .done) j fl ps asg bd))
  | _ => none

def roundWith (ex : Ex) (l : Nat) (args : List EV) (h : EH) : Option (EV × EH) :=
  match h.get l with
  | some (.loop .ready _ f ps asg bd) => match putAll f ps args with
    | some f0 => match ex true asg f0 h with
      | .normal f1 h1 => match h1.get l with
        | some (.loop .ready pe fl ps1 asg1 bd1) => (match ex true bd f1 (h1.set l (.loop .busy pe fl ps1 asg1 bd1)) with
          | .normal _ h3 => finE l none h3
          | .exit id _ h3 => finE l (some (.exit id)) h3
          | .goto g _ h3 => finE l (some (.goto g)) h3
          | .ret _ h3 => finE l (some .ret) h3
          | .fail => none)
        | _ => none
      | _ => none
    | none => none
  | _ => none

def orWith (tb : Tab) (ex : Ex) (h : EH) : OR → Option (Option EV × EH)
  | .val e h' => some (some e, h')
  | .skip h' => some (none, h')
  | .enter g args => match callWith tb ex g args h with
    | some (v, h') => some (some v, h')
    | none => none
  | .round l args => match roundWith ex l args h with
    | some (v, h') => some (some v, h')
    | none => none

def setDst (f : Fr) (dst : Option Tmp) (v : Option EV) : Option Fr :=
  match dst with
  | none => some f
  | some d => match v with
    | some e => f.put d e
    | none => some (f.del d)

/-- Is an operation wanted? none: that is not known. -/
def wantedE (ops : Array Oper) (f : Fr) (o : Oper) : Option Bool :=
  match o.guard with
  | none => some true
  | some (j, want) => match ops[j]? with
    | some p => match p.dst with
      | some d => match f.get d with
        | some (.bool b) => some (b == want)
        | some (.tuple _) => some false
        | _ => none
      | none => none
    | none => none

/-- One operation of a region. -/
def oneE (tb : Tab) (ex : Ex) (ops : Array Oper) (o : Oper) (nm : Nat) (f : Fr) (h : EH) : Option (Fr × EH) :=
  match wantedE ops f o with
  | some true => match opE tb h nm f o with
    | some r => match orWith tb ex h r with
      | some (v, h') => match setDst f o.dst v with
        | some f' => some (f', h')
        | none => none
      | none => none
    | none => none
  | some false => (setDst f o.dst (some (.tuple []))).map (·, h)
  | none => none

def regE (tb : Tab) (ex : Ex) (ops : Array Oper) : List Oper → Fr → EH → XR
  | [], f, h => .normal f h
  | o :: l, f, h => match oneE tb ex ops o h.next f ⟨h.objs, h.next + 1⟩ with
    | some (f', h') => regE tb ex ops l f' h'
    | none => .fail

/-- What is left of a scope's body, and the jumps within. -/
def scopeE (ex : Ex) (rd : Bool) (b : Code) : Nat → Code → Fr → EH → XR
  | 0, _, _, _ => .fail
  | n + 1, c, f, h => match ex rd c f h with
    | .goto l f' h' => match findLabel b l with
      | some rest => scopeE ex rd b n rest f' h'
      | none => .goto l f' h'
    | r => r

/-! ### Regions that draw their order -/

mutual
def EV.eqb : EV → EV → Bool
  | .bool a, .bool b => a == b
  | .int j a, .int k b => decide (j = k) && decide (a = b)
  | .str a, .str b => strEq a b
  | .ptr m o, .ptr n p => Nat.beq m n && Nat.beq o p
  | .nilPtr, .nilPtr => true
  | .slice n o l c e, .slice n' o' l' c' e' => Nat.beq n n' && Nat.beq o o' && Nat.beq l l' && decide (c = c') && Nat.beq e e'
  | .nilSlice, .nilSlice => true
  | .map m, .map n => Nat.beq m n
  | .nilMap, .nilMap => true
  | .func f a b, .func g c d => decide (f = g) && EV.eqbs a c && EV.eqbs b d
  | .nilFunc, .nilFunc => true
  | .iface t v, .iface u w => Nat.beq t u && EV.eqb v w
  | .nilIface, .nilIface => true
  | .agg a, .agg b => EV.eqbs a b
  | .tuple a, .tuple b => EV.eqbs a b
  | .sym a, .sym b => Nat.beq a b
  | _, _ => false
def EV.eqbs : List EV → List EV → Bool
  | [], [] => true
  | a :: x, b :: y => EV.eqb a b && EV.eqbs x y
  | _, _ => false
end

inductive Kd where
  | pure | reader | alloc | effect

def convKind (tb : Tab) (s d : TypeId) : Kd :=
  match tb.und s, tb.und d with
  | some .string, some (.slice _) => .alloc
  | some (.slice _), some .string => .reader
  | _, some (.int _) => .pure
  | _, some .string => .pure
  | _, _ => .effect

def kindOf (tb : Tab) : Op → Kd
  | .move _ | .assign _ | .pick .. | .build .. | .nilCheck _ | .binOp .. | .unOp .. | .makeInterface .. | .makeFunc .. | .fieldAddr .. | .field .. | .indexAddr .. | .index .. | .typeAssert .. | .extract .. => .pure
  | .slice t _ _ _ _ => match tb.und t with
    | some (.array _ _) => .reader
    | _ => .pure
  | .load .. | .lookup .. => .reader
  | .alloc _ | .box .. | .buildSlice .. | .makeMap .. | .makeSlice .. => .alloc
  | .convert s d _ => convKind tb s d
  | .call c => match c.callee with
    | .builtin .len | .builtin .cap | .builtin .min | .builtin .max | .builtin .unsafeSliceData => .reader
    | _ => .effect
  | _ => .effect

structure Dr where
  f : Fr
  h : EH
  effs : List Nat     -- the effects that were done, the last one first
  gs : List EH        -- the heaps behind them, the last one first, and the one ahead of all
  rds : List (Nat × Oper × Fr × EV × Nat)   -- the readers: place, operation, frame, value, behind how many effects
  als : List (Nat × Nat)         -- the places of what made memory; behind how many effects

def drawOne (tb : Tab) (ex : Ex) (ops : Array Oper) (bef : List Nat) (o : Oper) (i : Nat) (base : Nat) (d : Dr) : Option Dr :=
  match wantedE ops d.f o with
  | some false => (setDst d.f o.dst (some (.tuple []))).map fun f => { d with f := f }
  | some true => match opE tb d.h (base + i) d.f o with
    | some r => match kindOf tb o.op with
      | .effect => match (match d.effs with | [] => true | e :: _ => Nat.testBit (bef.getD i 0) e) with
        | true => match orWith tb ex d.h r with
          | some (v, h') => match setDst d.f o.dst v with
            | some f' => some { d with f := f', h := h', effs := i :: d.effs, gs := h' :: d.gs }
            | none => none
          | none => none
        | false => none
      | .alloc => match r with
        | .val v h' => match setDst d.f o.dst (some v) with
          | some f' => some { d with f := f', h := h', als := (i, d.effs.length) :: d.als }
          | none => none
        | _ => none
      | .reader => match r with
        | .val v _ => match setDst d.f o.dst (some v) with
          | some f' => some { d with f := f', rds := (i, o, d.f, v, d.effs.length) :: d.rds }
          | none => none
        | _ => none
      | .pure => match r with
        | .val v _ => match setDst d.f o.dst (some v) with
          | some f' => some { d with f := f' }
          | none => none
        | _ => none
    | none => none
  | none => none

def drawAll (tb : Tab) (ex : Ex) (ops : Array Oper) (bef : List Nat) (base : Nat) : List Oper → Nat → Dr → Option Dr
  | [], _, d => some d
  | o :: l, i, d => match drawOne tb ex ops bef o i base d with
    | some d' => drawAll tb ex ops bef base l (i + 1) d'
    | none => none

/-- Does operation i wait for one of the effects? -/
def waitsFor (bef : List Nat) (i : Nat) (es : List Nat) : Bool := es.any fun e => Nat.testBit (bef.getD i 0) e

/-- Does one of the effects wait for operation i? -/
def waitedBy (bef : List Nat) (i : Nat) (es : List Nat) : Bool := es.any fun e => Nat.testBit (bef.getD e 0) i

/-- Does a reader come to the same behind k effects? 'es': the effects, the first one first; 'gs': the heaps behind none, one, ..; m: behind how many it stood. -/
def steadyAt (tb : Tab) (bef : List Nat) (o : Oper) (i : Nat) (f : Fr) (v : EV) (m : Nat) (es : List Nat) (gs : List EH) (k : Nat) : Bool :=
  waitsFor bef i (es.drop k) || waitedBy bef i (es.take k) || Nat.beq k m || (match gs[k]? with
    | some g => (match opE tb g 0 f o with
      | some (.val w _) => EV.eqb v w
      | _ => false)
    | none => false)

def oprTmps : List Operand → List Tmp
  | [] => []
  | .tmp t :: l => t :: oprTmps l
  | _ :: l => oprTmps l

/-- The temporaries that an operation looks at or writes. -/
def opTmps (ops : Array Oper) (o : Oper) : List Tmp :=
  o.dst.toList ++ oprTmps o.op.operands.toList ++ (match o.guard with
    | none => []
    | some (j, _) => match ops[j]? with
      | some p => p.dst.toList
      | none => [])

/-- Does every other operation that writes t stand in an order with operation j? -/
def alone (bef : List Nat) (j : Nat) (t : Tmp) : List Oper → Nat → Bool
  | [], _ => true
  | p :: l, i => (match p.dst with
    | none => true
    | some d => cond (Nat.beq d t) (Nat.beq i j || Nat.testBit (bef.getD (Nat.max i j) 0) (Nat.min i j)) true) && alone bef j t l (Nat.add i 1)

def namesOk (bef : List Nat) (ops : Array Oper) (all : List Oper) : List Oper → Nat → Bool
  | [], _ => true
  | o :: l, j => (opTmps ops o).all (fun t => alone bef j t all 0) && (match o.guard with
    | none => true
    | some (g, _) => Nat.testBit (bef.getD j 0) g) && o.after.toList.all (fun e => !Region.binds .any e || Nat.blt e.on j) && namesOk bef ops all l (Nat.add j 1)

def drawE (tb : Tab) (ex : Ex) (ops : Array Oper) (f : Fr) (h : EH) : XR :=
  let bef := (Region.before ops).toList
  let all := ops.toList
  let h0 : EH := ⟨h.objs, h.next + ops.size⟩
  match namesOk bef ops all all 0 && Nat.ble (h.next + ops.size) 549755813888 with
  | true => match drawAll tb ex ops bef h.next all 0 ⟨f, h0, [], [h0], [], []⟩ with
    | some d =>
      let es := d.effs.reverse
      let gs := d.gs.reverse
      match d.als.all (fun (i, m) => (es.drop m).all fun e => Nat.testBit (bef.getD e 0) i) && d.rds.all (fun (i, o, f, v, m) => (List.range (es.length + 1)).all (steadyAt tb bef o i f v m es gs)) with
      | true => .normal d.f d.h
      | false => .fail
    | none => .fail
  | false => .fail

def exec (tb : Tab) : Nat → Ex
  | 0, _, _, _, _ => .fail
  | n + 1, rd, c, f, h =>
    match c with
    | .skip => .normal f h
    | .label _ => .normal f h
    | .region _ ops false => regE tb (exec tb n) ops ops.toList f h
    | .region _ ops true => drawE tb (exec tb n) ops f h
    | .seq a b => match exec tb n rd a f h with
      | .normal f' h' => exec tb n rd b f' h'
      | r => r
    | .cond c a b => match ev f c with
      | some (.bool true) => exec tb n rd a f h
      | some (.bool false) => exec tb n rd b f h
      | _ => .fail
    | .block id b => match exec tb n rd b f h with
      | .exit i f' h' => cond (Nat.beq i id) (.normal f' h') (.exit i f' h')
      | r => r
    | .loop b => match exec tb n rd b f h with
      | .normal f' h' => exec tb n rd (.loop b) f' h'
      | r => r
    | .scope b => scopeE (exec tb n) rd b n b f h
    | .goto l => .goto l f h
    | .exit i => .exit i f h
    | .ret => .ret f h
    | .rangeFunc g ps asg bd => match ev f g with
      | some (.func (.func k) [] cap) => (match tb.fn k with
        | some fn => cond fn.body.isSome (match callWith tb (exec tb n) k (.func (.yield h.next) [] [] :: cap) ⟨T.set deep h.objs h.next (.loop .ready none f ps.toList asg bd), h.next + 1⟩ with
          | some (_, h') => (match h'.get h.next with
            | some (.loop st pe fl ps asg bd) => (match st with
              | .busy => .fail
              | _ => (match pe with
                | none => .normal f (h'.set h.next (.loop .exhausted pe fl ps asg bd))
                | some (.exit i) => .exit i f (h'.set h.next (.loop .exhausted pe fl ps asg bd))
                | some .ret => .ret f (h'.set h.next (.loop .exhausted pe fl ps asg bd))
                | _ => .fail))
            | _ => .fail)
          | none => .fail) .fail
        | none => .fail)
      | _ => .fail
    | _ => .fail

end Go.Eng

namespace Go.Eng
open Go

/-! ### The trie -/

theorem beq0 (k : Nat) : (Nat.beq k 0 = true ∧ k = 0) ∨ (Nat.beq k 0 = false ∧ k ≠ 0) := by
  cases e : Nat.beq k 0 with
  | true => exact .inl ⟨rfl, Nat.eq_of_beq_eq_true e⟩
  | false => exact .inr ⟨rfl, Nat.ne_of_beq_eq_false e⟩
theorem beqm (k : Nat) : (Nat.beq (Nat.mod k 2) 1 = true ∧ k % 2 = 1) ∨ (Nat.beq (Nat.mod k 2) 1 = false ∧ k % 2 ≠ 1) := by
  cases e : Nat.beq (Nat.mod k 2) 1 with
  | true => exact .inl ⟨rfl, Nat.eq_of_beq_eq_true e⟩
  | false => exact .inr ⟨rfl, Nat.ne_of_beq_eq_false e⟩
theorem div2 (k : Nat) : Nat.div k 2 = k / 2 := rfl
theorem sub1 (k : Nat) : Nat.sub k 1 = k - 1 := rfl

theorem T.get_node {α : Type} (l r : T α) (v : Option α) (m : Nat) :
    (T.node l v r).get m = if m = 0 then v else if m % 2 = 1 then l.get (m / 2) else r.get ((m - 1) / 2) := by
  rcases beq0 m with ⟨h, e⟩ | ⟨h, e⟩
  · subst e; rfl
  · rcases beqm m with ⟨h2, e2⟩ | ⟨h2, e2⟩ <;> simp only [T.get, h, h2, cond_true, cond_false, if_neg e, e2, if_true, if_false, div2, sub1]

theorem T.get_set {α : Type} (fu : Nat) : ∀ (t : T α) (n m : Nat) (a v : α), (T.set fu t n a).get m = some v → (m = n ∧ v = a) ∨ (m ≠ n ∧ t.get m = some v) := by
  induction fu with
  | zero => intro t n m a v h; simp [T.set, T.get] at h
  | succ fu ih =>
    intro t n m a v h
    cases t with
    | leaf =>
      rcases beq0 n with ⟨hn, e⟩ | ⟨hn, e⟩
      · subst e
        simp only [T.set, hn, cond_true, T.get_node] at h
        split at h
        · simp at h; exact .inl ⟨by assumption, h.symm⟩
        · split at h <;> simp [T.get] at h
      · rcases beqm n with ⟨hq, e2⟩ | ⟨hq, e2⟩
        · simp only [T.set, hn, hq, cond_true, cond_false, T.get_node, div2] at h
          split at h
          · simp at h
          · split at h
            · rcases ih _ _ _ _ _ h with ⟨a1, a2⟩ | ⟨_, a2⟩
              · exact .inl ⟨by omega, a2⟩
              · simp [T.get] at a2
            · simp [T.get] at h
        · simp only [T.set, hn, hq, cond_false, T.get_node, div2, sub1] at h
          split at h
          · simp at h
          · split at h
            · simp [T.get] at h
            · rcases ih _ _ _ _ _ h with ⟨a1, a2⟩ | ⟨_, a2⟩
              · exact .inl ⟨by omega, a2⟩
              · simp [T.get] at a2
    | node l v' r =>
      rw [T.get_node]
      rcases beq0 n with ⟨hn, e⟩ | ⟨hn, e⟩
      · subst e
        simp only [T.set, hn, cond_true, T.get_node] at h
        by_cases hm : m = 0
        · simp only [hm, if_true] at h; exact .inl ⟨hm, (Option.some.inj h).symm⟩
        · rw [if_neg hm] at h ⊢; exact .inr ⟨hm, h⟩
      · rcases beqm n with ⟨hq, e2⟩ | ⟨hq, e2⟩
        · simp only [T.set, hn, hq, cond_true, cond_false, T.get_node, div2] at h
          by_cases hm : m = 0
          · simp only [hm, if_true] at h ⊢; exact .inr ⟨fun x => e x.symm, h⟩
          · by_cases hm2 : m % 2 = 1
            · simp only [hm, hm2, if_true, if_false] at h ⊢
              rcases ih _ _ _ _ _ h with ⟨a1, a2⟩ | ⟨a1, a2⟩
              · exact .inl ⟨by omega, a2⟩
              · exact .inr ⟨fun x => a1 (by rw [x]), a2⟩
            · simp only [hm, hm2, if_false] at h ⊢
              exact .inr ⟨fun x => hm2 (by rw [x]; exact e2), h⟩
        · simp only [T.set, hn, hq, cond_false, T.get_node, div2, sub1] at h
          by_cases hm : m = 0
          · simp only [hm, if_true] at h ⊢; exact .inr ⟨fun x => e x.symm, h⟩
          · by_cases hm2 : m % 2 = 1
            · simp only [hm, hm2, if_true, if_false] at h ⊢
              exact .inr ⟨fun x => e2 (by rw [← x]; exact hm2), h⟩
            · simp only [hm, hm2, if_false] at h ⊢
              rcases ih _ _ _ _ _ h with ⟨a1, a2⟩ | ⟨a1, a2⟩
              · exact .inl ⟨by omega, a2⟩
              · exact .inr ⟨fun x => a1 (by rw [x]), a2⟩

theorem T.get_del {α : Type} : ∀ (t : T α) (n m : Nat) (v : α), (t.del n).get m = some v → m ≠ n ∧ t.get m = some v := by
  intro t
  induction t with
  | leaf => intro n m v h; simp [T.del, T.get] at h
  | node l v' r ihl ihr =>
    intro n m v h
    rw [T.get_node]
    rcases beq0 n with ⟨hn, e⟩ | ⟨hn, e⟩
    · subst e
      simp only [T.del, hn, cond_true, T.get_node] at h
      by_cases hm : m = 0
      · simp [hm] at h
      · rw [if_neg hm] at h ⊢; exact ⟨hm, h⟩
    · rcases beqm n with ⟨hq, e2⟩ | ⟨hq, e2⟩
      · simp only [T.del, hn, hq, cond_true, cond_false, T.get_node, div2] at h
        by_cases hm : m = 0
        · simp only [hm, if_true] at h ⊢; exact ⟨fun x => e x.symm, h⟩
        · by_cases hm2 : m % 2 = 1
          · simp only [hm, hm2, if_true, if_false] at h ⊢
            obtain ⟨a1, a2⟩ := ihl _ _ _ h
            exact ⟨fun x => a1 (by rw [x]), a2⟩
          · simp only [hm, hm2, if_false] at h ⊢
            exact ⟨fun x => hm2 (by rw [x]; exact e2), h⟩
      · simp only [T.del, hn, hq, cond_false, T.get_node, div2, sub1] at h
        by_cases hm : m = 0
        · simp only [hm, if_true] at h ⊢; exact ⟨fun x => e x.symm, h⟩
        · by_cases hm2 : m % 2 = 1
          · simp only [hm, hm2, if_true, if_false] at h ⊢
            exact ⟨fun x => e2 (by rw [← x]; exact hm2), h⟩
          · simp only [hm, hm2, if_false] at h ⊢
            obtain ⟨a1, a2⟩ := ihr _ _ _ h
            exact ⟨fun x => a1 (by rw [x]), a2⟩

/-! ### Values -/

/-- What the values without a face are. -/
class Syms where
  val : Nat → Value
  /-- Blocks of which is known what they hold (tables). -/
  pin : Nat → Option (Array Value × TypeId × (Nat × Nat)) := fun _ => none

variable [Syms]

/-- Where a name's block lies: its number, where the name's first cell is in it, how many cells it has. -/
structure Loc where
  b : Nat
  sh : Nat
  sz : Nat

abbrev Ren := Nat → Option Loc

/-- What is known of a slice's capacity. -/
def CapOk (cap : Option Nat) (c : Nat) : Prop := (∀ k, cap = some k → c = k) ∧ (cap = none → c ≤ 9223372036854775807)
omit [Syms] in
theorem CapOk.told (k : Nat) : CapOk (some k) k := ⟨(fun _ e => by cases e; rfl), (fun e => by cases e)⟩
omit [Syms] in
theorem CapOk.wide {c : Nat} (h : c ≤ 9223372036854775807) : CapOk none c := ⟨(fun _ e => by cases e), (fun _ => h)⟩

mutual
inductive VRel (ρ : Ren) : EV → Value → Prop where
  | bool (b : Bool) : VRel ρ (.bool b) (.bool b)
  | int (k : IntKind) (n : Int) : VRel ρ (.int k n) (.int k n)
  | str (s : ByteArray) (l : List Nat) (h : ofBytes s = l) : VRel ρ (.str l) (.string s)
  | ptr (n off : Nat) (L : Loc) (h : ρ n = some L) : VRel ρ (.ptr n off) (.pointer (some ⟨L.b, L.sh + off, none⟩))
  | nilPtr : VRel ρ .nilPtr (.pointer none)
  | slice (n off len : Nat) (cap : Option Nat) (es : Nat) (L : Loc) (o c : Nat) (h : ρ n = some L) (hl : len ≤ c) (hc : CapOk cap c)
      (ho : c = 0 ∨ (o = L.sh + off ∧ o + c * es ≤ L.sz)) : VRel ρ (.slice n off len cap es) (.slice (some ⟨L.b, o, none⟩) len c)
  | nilSlice : VRel ρ .nilSlice (.slice none 0 0)
  | map (n : Nat) (L : Loc) (h : ρ n = some L) : VRel ρ (.map n) (.map (some L.b))
  | nilMap : VRel ρ .nilMap (.map none)
  | func (fn : Fn) (first cap : List EV) (first' cap' : Array Value) (hn : ∀ l, fn ≠ .yield l) (h1 : VRels ρ first first'.toList) (h2 : VRels ρ cap cap'.toList) :
      VRel ρ (.func fn first cap) (.func fn first' cap')
  | yield (n : Nat) (L : Loc) (h : ρ n = some L) : VRel ρ (.func (.yield n) [] []) (.func (.yield L.b) #[] #[])
  | nilFunc : VRel ρ .nilFunc .nilFunc
  | iface (t : TypeId) (v : EV) (v' : Value) (h : VRel ρ v v') : VRel ρ (.iface t v) (.iface t v')
  | nilIface : VRel ρ .nilIface .nilIface
  | agg (cs : List EV) (cs' : Array Value) (h : VRels ρ cs cs'.toList) : VRel ρ (.agg cs) (.agg cs')
  | tuple (cs : List EV) (cs' : Array Value) (h : VRels ρ cs cs'.toList) : VRel ρ (.tuple cs) (.tuple cs')
  | any (v : Value) (h : v.oneCell' = true) : VRel ρ .any v
  | sym (n : Nat) (v : Value) (hv : Syms.val n = v) (h1 : v.oneCell' = true) : VRel ρ (.sym n) v
inductive VRels (ρ : Ren) : List EV → List Value → Prop where
  | nil : VRels ρ [] []
  | cons (e : EV) (v : Value) (es : List EV) (vs : List Value) (h : VRel ρ e v) (hs : VRels ρ es vs) : VRels ρ (e :: es) (v :: vs)
end

def Ren.le (ρ ρ' : Ren) : Prop := ∀ n L, ρ n = some L → ρ' n = some L
omit [Syms] in
theorem Ren.le_refl (ρ : Ren) : ρ.le ρ := fun _ _ h => h
omit [Syms] in
theorem Ren.le_trans {a b c : Ren} (h : a.le b) (k : b.le c) : a.le c := fun n L e => k n L (h n L e)

theorem VRel.mono {ρ ρ' : Ren} (hle : ρ.le ρ') : ∀ {e : EV} {v : Value}, VRel ρ e v → VRel ρ' e v := by
  intro e v h
  refine VRel.rec (motive_1 := fun e v _ => VRel ρ' e v) (motive_2 := fun es vs _ => VRels ρ' es vs)
    ?_ ?_ ?_ ?_ ?_ ?_ ?_ ?_ ?_ ?_ ?_ ?_ ?_ ?_ ?_ ?_ ?_ ?_ ?_ ?_ h
  · exact fun b => .bool b
  · exact fun k n => .int k n
  · exact fun s l h => .str s l h
  · exact fun n off L h => .ptr n off L (hle _ _ h)
  · exact .nilPtr
  · exact fun n off len cap es L o c h hl hc ho => .slice n off len cap es L o c (hle _ _ h) hl hc ho
  · exact .nilSlice
  · exact fun n L h => .map n L (hle _ _ h)
  · exact .nilMap
  · exact fun fn a b a' b' hn _ _ h1 h2 => .func fn a b a' b' hn h1 h2
  · exact fun n L h => .yield n L (hle _ _ h)
  · exact .nilFunc
  · exact fun t v v' _ h => .iface t v v' h
  · exact .nilIface
  · exact fun cs cs' _ h => .agg cs cs' h
  · exact fun cs cs' _ h => .tuple cs cs' h
  · exact fun v h => .any v h
  · exact fun n v hv h1 => .sym n v hv h1
  · exact .nil
  · exact fun e v es vs _ _ h hs => .cons e v es vs h hs

theorem VRels.mono {ρ ρ' : Ren} (hle : ρ.le ρ') : ∀ {es : List EV} {vs : List Value}, VRels ρ es vs → VRels ρ' es vs
  | [], [], _ => .nil
  | _ :: _, _ :: _, .cons _ _ _ _ h hs => .cons _ _ _ _ (h.mono hle) (hs.mono hle)

theorem VRels.length {ρ : Ren} : ∀ {es : List EV} {vs : List Value}, VRels ρ es vs → es.length = vs.length
  | [], [], _ => rfl
  | _ :: _, _ :: _, .cons _ _ _ _ _ hs => by simp [hs.length]

theorem VRels.get {ρ : Ren} : ∀ {es : List EV} {vs : List Value} {i : Nat} {e : EV}, VRels ρ es vs → es[i]? = some e → ∃ v, vs[i]? = some v ∧ VRel ρ e v
  | [], [], i, e, _, h => by simp at h
  | _ :: _, v :: _, 0, e, .cons _ _ _ _ h0 _, h => by simp at h; subst h; exact ⟨v, rfl, h0⟩
  | _ :: _, _ :: _, i + 1, e, .cons _ _ _ _ _ hs, h => by simpa using hs.get (i := i) (by simpa using h)

theorem VRels.append {ρ : Ren} : ∀ {es fs : List EV} {vs us : List Value}, VRels ρ es vs → VRels ρ fs us → VRels ρ (es ++ fs) (vs ++ us)
  | [], _, [], _, _, h => h
  | _ :: _, _, _ :: _, _, .cons _ _ _ _ h hs, h2 => .cons _ _ _ _ h (hs.append h2)

theorem VRels.take {ρ : Ren} : ∀ {es : List EV} {vs : List Value} (k : Nat), VRels ρ es vs → VRels ρ (es.take k) (vs.take k)
  | _, _, 0, _ => by simp; exact .nil
  | [], [], _ + 1, _ => by simp; exact .nil
  | _ :: _, _ :: _, k + 1, .cons _ _ _ _ h hs => by simpa using .cons _ _ _ _ h (hs.take k)

theorem VRels.drop {ρ : Ren} : ∀ {es : List EV} {vs : List Value} (k : Nat), VRels ρ es vs → VRels ρ (es.drop k) (vs.drop k)
  | _, _, 0, h => by simpa using h
  | [], [], _ + 1, _ => by simp; exact .nil
  | _ :: _, _ :: _, k + 1, .cons _ _ _ _ _ hs => by simpa using hs.drop k

theorem VRels.of_get {ρ : Ren} : ∀ {es : List EV} {vs : List Value}, es.length = vs.length → (∀ (i : Nat) (e : EV), es[i]? = some e → ∃ v, vs[i]? = some v ∧ VRel ρ e v) → VRels ρ es vs
  | [], [], _, _ => .nil
  | e :: es, v :: vs, hl, h => by
    refine .cons _ _ _ _ ?_ (VRels.of_get (by simpa using hl) fun i e' he => ?_)
    · obtain ⟨v', hv, hr⟩ := h 0 e rfl
      simp at hv; subst hv; exact hr
    · obtain ⟨v', hv, hr⟩ := h (i + 1) e' (by simpa using he)
      exact ⟨v', by simpa using hv, hr⟩
  | [], _ :: _, hl, _ => by simp at hl
  | _ :: _, [], hl, _ => by simp at hl

/-! ### Objects, heaps -/

def FRel (ρ : Ren) (f : Fr) (tm : Array Value) : Prop := tm.size = f.n ∧ ∀ t e, f.get t = some e → ∃ v, tm[t]? = some v ∧ VRel ρ e v

theorem FRel.mono {ρ ρ' : Ren} {f : Fr} {tm : Array Value} (hle : ρ.le ρ') (h : FRel ρ f tm) : FRel ρ' f tm :=
  ⟨h.1, fun t e he => let ⟨v, hv, hr⟩ := h.2 t e he; ⟨v, hv, hr.mono hle⟩⟩

def MRel (ρ : Ren) : List (EV × EV × Nat) → List MapEntry → Prop
  | [], [] => True
  | e :: es, x :: xs => VRel ρ e.1 x.key ∧ VRel ρ e.2.1 x.val ∧ e.2.2 = x.born ∧ MRel ρ es xs
  | _, _ => False

theorem MRel.mono {ρ ρ' : Ren} (hle : ρ.le ρ') : ∀ {es : List (EV × EV × Nat)} {xs : List MapEntry}, MRel ρ es xs → MRel ρ' es xs
  | [], [], _ => trivial
  | _ :: _, _ :: _, ⟨h1, h2, h3, h4⟩ => ⟨h1.mono hle, h2.mono hle, h3, h4.mono hle⟩

def ORel (P : Program) (ρ : Ren) (L : Loc) : EO → Option Obj → Prop
  | .cells t e vr, x => ∃ c fr, x = some (.cells c e fr) ∧ c.size = L.sz ∧ (vr = true → L.sh = 0 ∧ ∃ i, P.info? e = some i ∧ i.size = c.size) ∧
      (fr.1 = fr.2 ∨ (c.size ≤ fr.1 ∧ P.underlying e = some (.int .u8))) ∧ ∀ k ev, t.get k = some ev → ∃ v, c[L.sh + k]? = some v ∧ VRel ρ ev v ∧ v.oneCell' = true
  | .map es clock, x => ∃ es', x = some (.map es' clock) ∧ MRel ρ es es'.toList
  | .strIter s pos, x => L.sh = 0 ∧ ∃ s', x = some (.stringIter s' pos) ∧ ofBytes s' = s
  | .mapIter m since seen st, x => L.sh = 0 ∧ ∃ m' seen', x = some (.mapIter m' since seen' st) ∧ seen'.toList = seen ∧ (m = none → m' = none) ∧ ∀ n, m = some n → ∃ M, ρ n = some M ∧ m' = some M.b
  | .loop st pe f ps a b, x => ∃ l, x = some (.loop l) ∧ l.state = st ∧ l.pending = pe ∧ l.params.toList = ps ∧ l.assign = a ∧ l.body = b ∧ FRel ρ f l.tmps

theorem ORel.mono {P : Program} {ρ ρ' : Ren} {L : Loc} {o : EO} {x : Option Obj} (hle : ρ.le ρ') (h : ORel P ρ L o x) : ORel P ρ' L o x := by
  cases o with
  | cells t e vr =>
    obtain ⟨c, fr, h1, h2, h3, h4, h5⟩ := h
    exact ⟨c, fr, h1, h2, h3, h4, fun k ev hk => let ⟨v, a, b, d⟩ := h5 k ev hk; ⟨v, a, b.mono hle, d⟩⟩
  | map es clock => obtain ⟨es', h1, h2⟩ := h; exact ⟨es', h1, h2.mono hle⟩
  | strIter s pos => exact h
  | mapIter m since seen st =>
    obtain ⟨h0, m', seen', h1, h2, h3, h4⟩ := h
    exact ⟨h0, m', seen', h1, h2, h3, fun n hn => let ⟨M, a, b⟩ := h4 n hn; ⟨M, hle _ _ a, b⟩⟩
  | loop st pe f ps a b => obtain ⟨l, h1, h2, h3, h4, h5, h6, h7⟩ := h; exact ⟨l, h1, h2, h3, h4, h5, h6, h7.mono hle⟩

def EO.isLoop : EO → Bool
  | .loop .. => true
  | _ => false

theorem ORel.loop {P : Program} {ρ : Ren} {L : Loc} {o : EO} {r : Loop} (h : ORel P ρ L o (some (.loop r))) : o.isLoop = true := by
  cases o with
  | cells t e vr => obtain ⟨c, fr, h1, _⟩ := h; cases h1
  | map es clock => obtain ⟨es', h1, _⟩ := h; cases h1
  | strIter s pos => obtain ⟨_, s', h1, _⟩ := h; cases h1
  | mapIter m since seen st => obtain ⟨_, m', seen', h1, _⟩ := h; cases h1
  | loop st pe f ps a b => rfl

theorem ORel.loop' {P : Program} {ρ : Ren} {L : Loc} {o : EO} {x : Option Obj} (h : ORel P ρ L o x) (hl : o.isLoop = true) : ∃ r, x = some (.loop r) := by
  cases o <;> first | (cases hl; done) | (obtain ⟨l, h1, _⟩ := h; exact ⟨l, h1⟩)

/-- The pinned blocks hold what they hold, and no name is of one. -/
structure Pinned (ρ : Ren) (w : World) : Prop where
  at_ : ∀ b x, Syms.pin b = some x → w.heap[b]? = some (.cells x.1 x.2.1 x.2.2)
  free : ∀ n L, ρ n = some L → Syms.pin L.b = none

theorem Pinned.lt {ρ : Ren} {w : World} (h : Pinned ρ w) {b : Nat} {x : Array Value × TypeId × (Nat × Nat)} (e : Syms.pin b = some x) : b < w.heap.size := (Array.getElem?_eq_some_iff.1 (h.at_ b x e)).1
theorem Pinned.kept {ρ : Ren} {w w' : World} (h : Pinned ρ w) (hk : ∀ b, b < w.heap.size → w'.heap[b]? = w.heap[b]?) : Pinned ρ w' :=
  ⟨fun b x e => by rw [hk b (h.lt e)]; exact h.at_ b x e, h.free⟩
theorem Pinned.names {ρ ρ' : Ren} {w : World} (h : Pinned ρ w) (hn : ∀ n L, ρ' n = some L → (∃ m M, ρ m = some M ∧ M.b = L.b) ∨ w.heap.size ≤ L.b) : Pinned ρ' w :=
  ⟨h.at_, fun n L e => by
    rcases hn n L e with ⟨m, M, e1, e2⟩ | hl
    · rw [← e2]; exact h.free m M e1
    · cases hp : Syms.pin L.b with
      | none => rfl
      | some x => have := h.lt hp; omega⟩
theorem Pinned.other {ρ : Ren} {w w' : World} {n : Nat} {L : Loc} (h : Pinned ρ w) (hn : ρ n = some L) (hk : ∀ b, b ≠ L.b → w'.heap[b]? = w.heap[b]?) : Pinned ρ w' :=
  ⟨fun b x e => by
    have hb : b ≠ L.b := by
      rintro rfl
      rw [h.free n L hn] at e
      cases e
    rw [hk b hb]; exact h.at_ b x e, h.free⟩

structure Rel (P : Program) (ρ : Ren) (h : EH) (w : World) : Prop where
  live : ∀ n o L, h.get n = some o → ρ n = some L → ORel P ρ L o w.heap[L.b]?
  inj : ∀ n n' o o' L L', h.get n = some o → h.get n' = some o' → ρ n = some L → ρ n' = some L' → L.b = L'.b → n = n'
  dom : ∀ n L, ρ n = some L → n < h.next ∧ L.b < w.heap.size
  low : ∀ n o, h.get n = some o → n < h.next
  pin : Pinned ρ w

/-- What an operation (a call, a walk) leaves of what was: S says which names may be new. -/
structure Extd (S : Nat → Prop) (ρ : Ren) (h : EH) (w : World) (ρ' : Ren) (h' : EH) (w' : World) : Prop where
  le : ρ.le ρ'
  next : h.next ≤ h'.next
  names : ∀ n L, ρ' n = some L → ρ n = some L ∨ S n
  os : w'.os = w.os
  tape : w'.tape = w.tape
  output : w'.output = w.output
  size : w.heap.size ≤ w'.heap.size
  kept : ∀ b, b < w.heap.size → (∀ n o L, h.get n = some o → ρ n = some L → L.b ≠ b) → w'.heap[b]? = w.heap[b]?
  gets : ∀ n o, h'.get n = some o → (∃ o', h.get n = some o') ∨ S n
  loops : ∀ (b : Nat) (r : Loop), w.heap[b]? = some (Obj.loop r) → ∃ r', w'.heap[b]? = some (Obj.loop r')
  sub : ∀ n o L, h'.get n = some o → ρ' n = some L → L.b < w.heap.size → ∃ m o' M, h.get m = some o' ∧ ρ m = some M ∧ M.b = L.b

omit [Syms] in
theorem Extd.refl (S : Nat → Prop) (ρ : Ren) (h : EH) (w : World) : Extd S ρ h w ρ h w :=
  ⟨ρ.le_refl, Nat.le_refl _, fun _ _ e => .inl e, rfl, rfl, rfl, Nat.le_refl _, fun _ _ _ => rfl, fun _ o e => .inl ⟨o, e⟩, fun _ r e => ⟨r, e⟩, fun n o L h1 h2 _ => ⟨n, o, L, h1, h2, rfl⟩⟩

omit [Syms] in
theorem Extd.trans {S S1 S2 : Nat → Prop} {ρ ρ1 ρ2 : Ren} {h h1 h2 : EH} {w w1 w2 : World} (a : Extd S1 ρ h w ρ1 h1 w1) (b : Extd S2 ρ1 h1 w1 ρ2 h2 w2)
    (hs1 : ∀ n, S1 n → S n) (hs2 : ∀ n, S2 n → S n) : Extd S ρ h w ρ2 h2 w2 where
  le := Ren.le_trans a.le b.le
  next := Nat.le_trans a.next b.next
  names n L e := by
    rcases b.names n L e with e1 | e1
    · rcases a.names n L e1 with e2 | e2
      · exact .inl e2
      · exact .inr (hs1 _ e2)
    · exact .inr (hs2 _ e1)
  os := b.os.trans a.os
  tape := b.tape.trans a.tape
  output := b.output.trans a.output
  size := Nat.le_trans a.size b.size
  gets n o e := by
    rcases b.gets n o e with ⟨o1, e1⟩ | e1
    · rcases a.gets n o1 e1 with e2 | e2
      · exact .inl e2
      · exact .inr (hs1 _ e2)
    · exact .inr (hs2 _ e1)
  loops k r e := let ⟨r1, e1⟩ := a.loops k r e; b.loops k r1 e1
  kept k hk hno := by
    refine (b.kept k (Nat.lt_of_lt_of_le hk a.size) ?_).trans (a.kept k hk hno)
    intro n o L e1 e2 e3
    obtain ⟨m, o', M, f1, f2, f3⟩ := a.sub n o L e1 e2 (by omega)
    exact hno m o' M f1 f2 (by omega)
  sub n o L e1 e2 e3 := by
    obtain ⟨m, o', M, f1, f2, f3⟩ := b.sub n o L e1 e2 (Nat.lt_of_lt_of_le e3 a.size)
    obtain ⟨m', o'', M', g1, g2, g3⟩ := a.sub m o' M f1 f2 (by omega)
    exact ⟨m', o'', M', g1, g2, by omega⟩

omit [Syms] in
theorem Extd.weaken {S S' : Nat → Prop} {ρ ρ' : Ren} {h h' : EH} {w w' : World} (a : Extd S ρ h w ρ' h' w') (hs : ∀ n, S n → S' n) : Extd S' ρ h w ρ' h' w' :=
  { a with names := fun n L e => (a.names n L e).imp id (hs n), gets := fun n o e => (a.gets n o e).imp id (hs n) }

end Go.Eng

namespace Go.Eng
open Go
variable [Syms]

/-! ### One block turned -/

/-- w' is w but for block b, which is x there. -/
structure Turned (b : Nat) (x : Obj) (w w' : World) : Prop where
  os : w'.os = w.os
  tape : w'.tape = w.tape
  output : w'.output = w.output
  size : w'.heap.size = w.heap.size
  at_ : w'.heap[b]? = some x
  other : ∀ k, k ≠ b → w'.heap[k]? = w.heap[k]?

omit [Syms] in
theorem Turned.refl {b : Nat} {x : Obj} {w : World} (h : w.heap[b]? = some x) : Turned b x w w := ⟨rfl, rfl, rfl, rfl, h, fun _ _ => rfl⟩
omit [Syms] in
theorem Turned.trans {b : Nat} {x y : Obj} {w w1 w2 : World} (h : Turned b x w w1) (k : Turned b y w1 w2) : Turned b y w w2 :=
  ⟨k.os.trans h.os, k.tape.trans h.tape, k.output.trans h.output, k.size.trans h.size, k.at_, fun i hi => (k.other i hi).trans (h.other i hi)⟩

omit [Syms] in
theorem turned_setCell {b i : Nat} {c : Array Value} {e : TypeId} {fr : Nat × Nat} {w : World} (h : w.heap[b]? = some (.cells c e fr)) (v : Value) :
    Turned b (.cells (c.setIfInBounds i v) e fr) w (w.setCell ⟨b, i, none⟩ v) := by
  refine ⟨rfl, rfl, rfl, by simp [World.setCell], ?_, fun k hk => ?_⟩
  · simp [World.setCell, Array.getElem?_modify, h]
  · simp only [World.setCell, Array.getElem?_modify]; rw [if_neg (fun e => hk e.symm)]

omit [Syms] in
theorem turned_setObj {r : Nat} {x y : Obj} {w : World} (h : w.heap[r]? = some x) : Turned r y w { w with heap := w.heap.setIfInBounds r y } := by
  have hlt : r < w.heap.size := (Array.getElem?_eq_some_iff.1 h).1
  refine ⟨rfl, rfl, rfl, by simp, ?_, fun k hk => ?_⟩
  · simp [hlt]
  · simp only [Array.getElem?_setIfInBounds]; rw [if_neg (fun e => hk e.symm)]

omit [Syms] in
theorem run_getObj {P : Program} {w : World} {r : Nat} {o : Obj} (h : w.heap[r]? = some o) (hc : ∀ c e f, o ≠ .cells c e f) : (getObj r).run P w = .ok o w := by
  cases o <;> first | exact absurd rfl (hc _ _ _) | (simp [getObj, Sem.run, h]; done)

omit [Syms] in
theorem run_setObj {P : Program} {w : World} {r : Nat} {o o' : Obj} (h : w.heap[r]? = some o) (hc : ∀ c e f, o ≠ .cells c e f) :
    (setObj r o').run P w = .ok () { w with heap := w.heap.setIfInBounds r o' } := by
  cases o <;> first | exact absurd rfl (hc _ _ _) | (simp [setObj, Sem.run, h]; done)

/-! ### Rows: loads and stores -/

def setRow (c : Array Value) (off : Nat) : List Value → Array Value
  | [] => c
  | v :: vs => setRow (c.setIfInBounds off v) (off + 1) vs

omit [Syms] in
theorem setRow_size : ∀ (vs : List Value) (c : Array Value) (off : Nat), (setRow c off vs).size = c.size
  | [], _, _ => rfl
  | _ :: vs, c, off => by simp [setRow, setRow_size vs]

omit [Syms] in
theorem setRow_get : ∀ (vs : List Value) (c : Array Value) (off k : Nat), off + vs.length ≤ c.size →
    (setRow c off vs)[k]? = if off ≤ k ∧ k < off + vs.length then vs[k - off]? else c[k]?
  | [], c, off, k, _ => by simp only [setRow, List.length_nil]; rw [if_neg (by omega)]
  | v :: vs, c, off, k, h => by
    simp only [List.length_cons] at h
    rw [setRow, setRow_get vs _ _ _ (by simpa using by omega)]
    simp only [Array.getElem?_setIfInBounds, List.length_cons]
    by_cases h1 : off + 1 ≤ k ∧ k < off + 1 + vs.length
    · rw [if_pos h1, if_pos (by omega)]
      obtain ⟨d, rfl⟩ : ∃ d, k = off + 1 + d := ⟨k - (off + 1), by omega⟩
      simp [show off + 1 + d - (off + 1) = d by omega, show off + 1 + d - off = d + 1 by omega]
    · rw [if_neg h1]
      by_cases h2 : off = k
      · subst h2
        simp [show off < c.size by omega]
      · rw [if_neg h2, if_neg (by omega)]

omit [Syms] in
theorem addr_add (b o n : Nat) : (⟨b, o, none⟩ : Addr).add n = ⟨b, o + n, none⟩ := by
  unfold Addr.add
  by_cases h : n = 0
  · subst h; simp
  · simp [h]

omit [Syms] in
theorem cell_row {w : World} {b : Nat} {c : Array Value} {e : TypeId} {fr : Nat × Nat} (h : w.heap[b]? = some (.cells c e fr)) (i : Nat) : w.cell? ⟨b, i, none⟩ = c[i]? := by
  simp [World.cell?, h]

omit [Syms] in
theorem frozen_row {w : World} {b : Nat} {c : Array Value} {e : TypeId} {fr : Nat × Nat} (h : w.heap[b]? = some (.cells c e fr)) (hf : ∀ k, k < c.size → ¬ (fr.1 ≤ k ∧ k < fr.2)) (i : Nat) (hi : i < c.size) :
    w.frozen? ⟨b, i, none⟩ = false := by
  obtain ⟨lo, hi'⟩ := fr
  have := hf i hi
  simp [World.frozen?, h] at this ⊢
  omega

omit [Syms] in
theorem run_storeCells {P : Program} {e : TypeId} {fr : Nat × Nat} {b off : Nat} : ∀ (vs : List Value) (i : Nat) (c : Array Value) (w : World), w.heap[b]? = some (.cells c e fr) →
    (∀ k, k < c.size → ¬ (fr.1 ≤ k ∧ k < fr.2)) → off + i + vs.length ≤ c.size → (∀ v ∈ vs, v.oneCell' = true) →
    ∃ w', (storeCells ⟨b, off, none⟩ vs i).run P w = .ok () w' ∧ Turned b (.cells (setRow c (off + i) vs) e fr) w w'
  | [], i, c, w, h, _, _, _ => ⟨w, rfl, .refl h⟩
  | v :: vs, i, c, w, h, hf, hl, h1 => by
    simp only [List.length_cons] at hl
    have hlt : off + i < c.size := by omega
    have hc : w.cell? ⟨b, off + i, none⟩ = some c[off + i] := by rw [cell_row h]; simp [hlt]
    have ht := turned_setCell (i := off + i) h v
    obtain ⟨w', hr, ht'⟩ := run_storeCells (P := P) (off := off) (b := b) vs (i + 1) (c.setIfInBounds (off + i) v) (w.setCell ⟨b, off + i, none⟩ v) ht.at_ (by simpa using hf) (by simp only [Array.size_setIfInBounds]; omega) (fun u hu => h1 u (List.mem_cons_of_mem _ hu))
    refine ⟨w', ?_, ht.trans (by simpa [setRow, Nat.add_assoc] using ht')⟩
    simp only [storeCells, addr_add, Sem.run_bind, run_store P w _ v .plain (h1 v (by simp)), hc, frozen_row h hf _ hlt, Bool.false_eq_true, if_false, Result.andThen_ok]
    exact hr

omit [Syms] in
theorem run_loadCellsFrom {P : Program} {w : World} {b off : Nat} {c : Array Value} {e : TypeId} {fr : Nat × Nat} (h : w.heap[b]? = some (.cells c e fr)) :
    ∀ (n i : Nat) (acc : Array Value), off + i + n ≤ c.size → (loadCellsFrom ⟨b, off, none⟩ i n acc).run P w = .ok (acc ++ c.extract (off + i) (off + i + n)) w
  | 0, i, acc, _ => by
    simp only [loadCellsFrom, Sem.run_pure]
    congr 1
    apply Array.ext'
    simp
  | n + 1, i, acc, hl => by
    have hlt : off + i < c.size := by omega
    have hc : w.cell? ⟨b, off + i, none⟩ = some c[off + i] := by rw [cell_row h]; simp [hlt]
    simp only [loadCellsFrom, addr_add, Sem.run_bind, run_load, hc, Result.andThen_ok]
    rw [run_loadCellsFrom h n (i + 1) _ (by omega)]
    congr 1
    apply Array.ext'
    simp only [Array.toList_append, Array.toList_push, Array.toList_extract, List.append_assoc]
    congr 1
    rw [show off + (i + 1) = off + i + 1 by omega, show off + i + 1 + n = off + i + (n + 1) by omega]
    simp only [List.extract_eq_take_drop]
    rw [show off + i + (n + 1) - (off + i) = n + 1 by omega, show off + i + (n + 1) - (off + i + 1) = n by omega]
    rw [List.drop_eq_getElem_cons (l := c.toList) (i := off + i) (by simpa using hlt), List.take_succ_cons]
    simp

omit [Syms] in
theorem run_loadCells {P : Program} {w : World} {b off n : Nat} {c : Array Value} {e : TypeId} {fr : Nat × Nat} (h : w.heap[b]? = some (.cells c e fr)) (hl : off + n ≤ c.size) :
    (loadCells ⟨b, off, none⟩ n).run P w = .ok (c.extract off (off + n)) w := by
  unfold loadCells
  rw [run_loadCellsFrom h n 0 #[] (by omega)]
  simp

/-! ### The relation carried over -/

omit [Syms] in
theorem EH.get_set {h : EH} {n m : Nat} {o x : EO} (e : (h.set n o).get m = some x) : (m = n ∧ x = o) ∨ (m ≠ n ∧ h.get m = some x) := T.get_set _ _ _ _ _ _ e
omit [Syms] in
theorem EH.get_del {h : EH} {n m : Nat} {x : EO} (e : (h.del n).get m = some x) : m ≠ n ∧ h.get m = some x := T.get_del _ _ _ _ e
omit [Syms] in
@[simp] theorem EH.next_set (h : EH) (n : Nat) (o : EO) : (h.set n o).next = h.next := rfl
omit [Syms] in
@[simp] theorem EH.next_del (h : EH) (n : Nat) : (h.del n).next = h.next := rfl

def Ren.put (ρ : Ren) (n : Nat) (L : Loc) : Ren := fun m => if m = n then some L else ρ m
omit [Syms] in
theorem Ren.put_same (ρ : Ren) (n : Nat) (L : Loc) : ρ.put n L n = some L := by simp [Ren.put]
omit [Syms] in
theorem Ren.put_other (ρ : Ren) {n m : Nat} (L : Loc) (h : m ≠ n) : ρ.put n L m = ρ m := by simp [Ren.put, h]
omit [Syms] in
theorem Ren.le_put {ρ : Ren} {n : Nat} {L : Loc} (h : ρ n = none) : ρ.le (ρ.put n L) := fun m M e => by
  rw [Ren.put_other _ _ (fun e' => by subst e'; rw [h] at e; cases e)]; exact e

variable {P : Program} {ρ : Ren} {h : EH} {w w' : World}

omit [Syms] in
theorem put_names {nm : Nat} {M : Loc} (_ : ρ nm = none) (h : (∃ m K, ρ m = some K ∧ K.b = M.b) ∨ w.heap.size ≤ M.b) : ∀ n L, ρ.put nm M n = some L → (∃ m K, ρ m = some K ∧ K.b = L.b) ∨ w.heap.size ≤ L.b := by
  intro n L e
  by_cases hne : n = nm
  · subst hne; rw [Ren.put_same] at e; cases e; exact h
  · rw [Ren.put_other _ _ hne] at e; exact .inl ⟨n, L, e, rfl⟩

/-- A new block under a new name. -/
theorem Rel.new {nm sz : Nat} {o : EO} {x : Obj} (hr : Rel P ρ h w) (hn : ρ nm = none) (hlt : nm < h.next)
    (hheap : w'.heap = w.heap.push x) (hos : w'.os = w.os) (htp : w'.tape = w.tape) (hou : w'.output = w.output)
    (ho : ORel P (ρ.put nm ⟨w.heap.size, 0, sz⟩) ⟨w.heap.size, 0, sz⟩ o (some x)) :
    Rel P (ρ.put nm ⟨w.heap.size, 0, sz⟩) (h.set nm o) w' ∧ Extd (· = nm) ρ h w (ρ.put nm ⟨w.heap.size, 0, sz⟩) (h.set nm o) w' := by
  have hle : ρ.le (ρ.put nm ⟨w.heap.size, 0, sz⟩) := Ren.le_put hn
  have old : ∀ k, k < w.heap.size → w'.heap[k]? = w.heap[k]? := fun k hk => by rw [hheap, Array.getElem?_push, if_neg (by omega)]
  refine ⟨⟨fun n o' L e1 e2 => ?_, fun n n' o1 o2 L L' e1 e2 e3 e4 e5 => ?_, fun n L e => ?_, fun n o' e => ?_, (hr.pin.names (put_names hn (.inr (Nat.le_refl _)))).kept old⟩, ⟨hle, Nat.le_refl _, fun n L e => ?_, hos, htp, hou, by simp [hheap], fun b hb _ => old b hb, fun n o' e => ?_, fun b r e => ⟨r, by rw [old b (Array.getElem?_eq_some_iff.1 e).1]; exact e⟩, fun n o' L e1 e2 e3 => ?_⟩⟩
  · rcases EH.get_set e1 with ⟨rfl, rfl⟩ | ⟨hne, e1⟩
    · rw [Ren.put_same] at e2; cases e2
      rw [hheap]; simpa using ho
    · rw [Ren.put_other _ _ hne] at e2
      have := (hr.live n o' L e1 e2).mono hle
      rwa [old _ (hr.dom n L e2).2]
  · rcases EH.get_set e1 with ⟨rfl, rfl⟩ | ⟨hne, e1⟩ <;> rcases EH.get_set e2 with ⟨rfl, rfl⟩ | ⟨hne', e2⟩
    · rfl
    · rw [Ren.put_same] at e3; cases e3
      rw [Ren.put_other _ _ hne'] at e4
      have := (hr.dom _ _ e4).2
      simp at e5; omega
    · rw [Ren.put_same] at e4; cases e4
      rw [Ren.put_other _ _ hne] at e3
      have := (hr.dom _ _ e3).2
      simp at e5; omega
    · rw [Ren.put_other _ _ hne] at e3; rw [Ren.put_other _ _ hne'] at e4
      exact hr.inj _ _ _ _ _ _ e1 e2 e3 e4 e5
  · by_cases hne : n = nm
    · subst hne; rw [Ren.put_same] at e; cases e; exact ⟨hlt, by simp [hheap]⟩
    · rw [Ren.put_other _ _ hne] at e
      have := hr.dom n L e
      exact ⟨this.1, by simp [hheap]; omega⟩
  · rcases EH.get_set e with ⟨rfl, _⟩ | ⟨_, e⟩
    · exact hlt
    · exact hr.low _ _ e
  · by_cases hne : n = nm
    · exact .inr hne
    · rw [Ren.put_other _ _ hne] at e; exact .inl e
  · rcases EH.get_set e with ⟨rfl, _⟩ | ⟨_, e⟩
    · exact .inr rfl
    · exact .inl ⟨_, e⟩
  · rcases EH.get_set e1 with ⟨rfl, rfl⟩ | ⟨hne, e1⟩
    · rw [Ren.put_same] at e2; cases e2; simp at e3
    · rw [Ren.put_other _ _ hne] at e2; exact ⟨n, o', L, e1, e2, rfl⟩

/-- A block that is named, turned. -/
theorem Rel.turn {n : Nat} {L : Loc} {o o' : EO} {x : Obj} (S : Nat → Prop) (hr : Rel P ρ h w) (hg : h.get n = some o) (hn : ρ n = some L) (ht : Turned L.b x w w') (ho : ORel P ρ L o' (some x)) (hk : o.isLoop = true → o'.isLoop = true := by first | (intro _; rfl) | (intro h; cases h; done)) :
    Rel P ρ (h.set n o') w' ∧ Extd S ρ h w ρ (h.set n o') w' := by
  refine ⟨⟨fun m o1 M e1 e2 => ?_, fun m m' o1 o2 M M' e1 e2 e3 e4 e5 => ?_, fun m M e => ?_, fun m o1 e => ?_, hr.pin.other hn ht.other⟩, ⟨ρ.le_refl, Nat.le_refl _, fun _ _ e => .inl e, ht.os, ht.tape, ht.output, by rw [ht.size]; exact Nat.le_refl _, fun b hb hno => ?_, fun m o1 e => ?_, fun b r e => ?_, fun m o1 M e1 e2 e3 => ?_⟩⟩
  · rcases EH.get_set e1 with ⟨rfl, rfl⟩ | ⟨hne, e1⟩
    · rw [hn] at e2; cases e2; rw [ht.at_]; exact ho
    · rw [ht.other]
      · exact hr.live m o1 M e1 e2
      · intro e; exact hne (hr.inj _ _ _ _ _ _ e1 hg e2 hn e)
  · have g1 : ∃ x, h.get m = some x := by
      rcases EH.get_set e1 with ⟨rfl, _⟩ | ⟨_, e1⟩
      · exact ⟨_, hg⟩
      · exact ⟨_, e1⟩
    have g2 : ∃ x, h.get m' = some x := by
      rcases EH.get_set e2 with ⟨rfl, _⟩ | ⟨_, e2⟩
      · exact ⟨_, hg⟩
      · exact ⟨_, e2⟩
    obtain ⟨x1, g1⟩ := g1; obtain ⟨x2, g2⟩ := g2
    exact hr.inj _ _ _ _ _ _ g1 g2 e3 e4 e5
  · have := hr.dom m M e
    exact ⟨this.1, by rw [ht.size]; exact this.2⟩
  · rcases EH.get_set e with ⟨rfl, _⟩ | ⟨_, e⟩
    · exact hr.low _ _ hg
    · exact hr.low _ _ e
  · exact ht.other b (fun e => hno n o L hg hn e.symm)
  · rcases EH.get_set e with ⟨rfl, _⟩ | ⟨_, e⟩
    · exact .inl ⟨_, hg⟩
    · exact .inl ⟨_, e⟩
  · by_cases hb : b = L.b
    · subst hb
      have h1 := hr.live n o L hg hn
      rw [e] at h1
      obtain ⟨r', hr'⟩ := ho.loop' (hk h1.loop)
      exact ⟨r', by rw [ht.at_]; exact hr'⟩
    · exact ⟨r, by rw [ht.other b hb]; exact e⟩
  · rcases EH.get_set e1 with ⟨rfl, _⟩ | ⟨_, e1⟩
    · exact ⟨_, _, _, hg, e2, rfl⟩
    · exact ⟨_, _, _, e1, e2, rfl⟩

/-- A world of the same blocks. -/
theorem Rel.same (S : Nat → Prop) (hr : Rel P ρ h w) (hheap : w'.heap = w.heap) (hos : w'.os = w.os) (htp : w'.tape = w.tape) (hou : w'.output = w.output) :
    Rel P ρ h w' ∧ Extd S ρ h w ρ h w' :=
  ⟨⟨fun n o L a b => by rw [hheap]; exact hr.live n o L a b, hr.inj, fun n L e => by rw [hheap]; exact hr.dom n L e, hr.low, hr.pin.kept fun b _ => by rw [hheap]⟩,
   ⟨ρ.le_refl, Nat.le_refl _, fun _ _ e => .inl e, hos, htp, hou, by rw [hheap]; exact Nat.le_refl _, fun _ _ _ => by rw [hheap], fun _ o e => .inl ⟨o, e⟩, fun _ r e => ⟨r, by rw [hheap]; exact e⟩, fun n o L a b _ => ⟨n, o, L, a, b, rfl⟩⟩⟩

/-- More names are reserved. -/
theorem Rel.reserve (S : Nat → Prop) {k : Nat} (hr : Rel P ρ h w) (hk : h.next ≤ k) : Rel P ρ ⟨h.objs, k⟩ w ∧ Extd S ρ h w ρ ⟨h.objs, k⟩ w :=
  ⟨⟨hr.live, hr.inj, fun n L e => ⟨Nat.lt_of_lt_of_le (hr.dom n L e).1 hk, (hr.dom n L e).2⟩, fun n o e => Nat.lt_of_lt_of_le (hr.low n o e) hk, hr.pin⟩,
   ⟨ρ.le_refl, hk, fun _ _ e => .inl e, rfl, rfl, rfl, Nat.le_refl _, fun _ _ _ => rfl, fun _ o e => .inl ⟨o, e⟩, fun _ r e => ⟨r, e⟩, fun n o L a b _ => ⟨n, o, L, a, b, rfl⟩⟩⟩

/-- A name is given up; its block may have turned in the meantime. -/
theorem Rel.del {n : Nat} {L : Loc} {o : EO} {x : Obj} (S : Nat → Prop) (hr : Rel P ρ h w) (hg : h.get n = some o) (hn : ρ n = some L) (ht : Turned L.b x w w') (hk : o.isLoop = false := by rfl) :
    Rel P ρ (h.del n) w' ∧ Extd S ρ h w ρ (h.del n) w' := by
  refine ⟨⟨fun m o1 M e1 e2 => ?_, fun m m' o1 o2 M M' e1 e2 e3 e4 e5 => ?_, fun m M e => ?_, fun m o1 e => hr.low _ _ (EH.get_del e).2, hr.pin.other hn ht.other⟩, ⟨ρ.le_refl, Nat.le_refl _, fun _ _ e => .inl e, ht.os, ht.tape, ht.output, by rw [ht.size]; exact Nat.le_refl _, fun b hb hno => ?_, fun m o1 e => .inl ⟨_, (EH.get_del e).2⟩, fun b r e => ?_, fun m o1 M e1 e2 e3 => ?_⟩⟩
  · obtain ⟨hne, e1⟩ := EH.get_del e1
    rw [ht.other]
    · exact hr.live m o1 M e1 e2
    · intro e; exact hne (hr.inj _ _ _ _ _ _ e1 hg e2 hn e)
  · exact hr.inj _ _ _ _ _ _ (EH.get_del e1).2 (EH.get_del e2).2 e3 e4 e5
  · have := hr.dom m M e
    exact ⟨this.1, by rw [ht.size]; exact this.2⟩
  · exact ht.other b (fun e => hno n o L hg hn e.symm)
  · by_cases hb : b = L.b
    · subst hb
      have h1 := hr.live n o L hg hn
      rw [e] at h1
      have h2 := h1.loop
      rw [hk] at h2; cases h2
    · exact ⟨r, by rw [ht.other b hb]; exact e⟩
  · exact ⟨_, _, _, (EH.get_del e1).2, e2, rfl⟩

/-- A name is given up, and its block goes by a new one. -/
theorem Rel.rename {n nm sh : Nat} {L : Loc} {o o' : EO} {x : Obj} (hr : Rel P ρ h w) (hg : h.get n = some o) (hn : ρ n = some L) (hnm : ρ nm = none) (hlt : nm < h.next)
    (ht : Turned L.b x w w') (ho : ORel P (ρ.put nm ⟨L.b, sh, L.sz⟩) ⟨L.b, sh, L.sz⟩ o' (some x)) (hk : o.isLoop = false := by rfl) :
    Rel P (ρ.put nm ⟨L.b, sh, L.sz⟩) ((h.del n).set nm o') w' ∧ Extd (· = nm) ρ h w (ρ.put nm ⟨L.b, sh, L.sz⟩) ((h.del n).set nm o') w' := by
  have hle : ρ.le (ρ.put nm ⟨L.b, sh, L.sz⟩) := Ren.le_put hnm
  obtain ⟨r1, x1⟩ := Rel.del (fun _ => False) hr hg hn ht hk
  have hno : ∀ m o1 M, (h.del n).get m = some o1 → ρ m = some M → M.b ≠ L.b := fun m o1 M e1 e2 e => by
    obtain ⟨hne, e1⟩ := EH.get_del e1
    exact hne (hr.inj _ _ _ _ _ _ e1 hg e2 hn e)
  refine ⟨⟨fun m o1 M e1 e2 => ?_, fun m m' o1 o2 M M' e1 e2 e3 e4 e5 => ?_, fun m M e => ?_, fun m o1 e => ?_, (hr.pin.names (put_names (M := ⟨L.b, sh, L.sz⟩) hnm (.inl ⟨n, L, hn, rfl⟩))).other (n := nm) (Ren.put_same _ _ _) ht.other⟩, ⟨hle, Nat.le_refl _, fun m M e => ?_, ht.os, ht.tape, ht.output, by rw [ht.size]; exact Nat.le_refl _, fun b hb hno' => ?_, fun m o1 e => ?_, fun b r e => ?_, fun m o1 M e1 e2 e3 => ?_⟩⟩
  · rcases EH.get_set e1 with ⟨rfl, rfl⟩ | ⟨hne, e1⟩
    · rw [Ren.put_same] at e2; cases e2; rw [ht.at_]; exact ho
    · rw [Ren.put_other _ _ hne] at e2; exact (r1.live m o1 M e1 e2).mono hle
  · rcases EH.get_set e1 with ⟨q1, _⟩ | ⟨q1, f1⟩ <;> rcases EH.get_set e2 with ⟨q2, _⟩ | ⟨q2, f2⟩
    · rw [q1, q2]
    · rw [q1, Ren.put_same] at e3; cases e3; rw [Ren.put_other _ _ q2] at e4; exact absurd e5.symm (hno _ _ _ f2 e4)
    · rw [q2, Ren.put_same] at e4; cases e4; rw [Ren.put_other _ _ q1] at e3; exact absurd e5 (hno _ _ _ f1 e3)
    · rw [Ren.put_other _ _ q1] at e3; rw [Ren.put_other _ _ q2] at e4; exact r1.inj _ _ _ _ _ _ f1 f2 e3 e4 e5
  · by_cases hne : m = nm
    · subst hne; rw [Ren.put_same] at e; cases e; exact ⟨hlt, by rw [ht.size]; exact (hr.dom n L hn).2⟩
    · rw [Ren.put_other _ _ hne] at e; exact r1.dom m M e
  · rcases EH.get_set e with ⟨rfl, _⟩ | ⟨_, e⟩
    · exact hlt
    · exact hr.low _ _ (EH.get_del e).2
  · by_cases hne : m = nm
    · exact .inr hne
    · rw [Ren.put_other _ _ hne] at e; exact .inl e
  · exact ht.other b (fun e => hno' n o L hg hn e.symm)
  · rcases EH.get_set e with ⟨rfl, _⟩ | ⟨_, e⟩
    · exact .inr rfl
    · exact .inl ⟨_, (EH.get_del e).2⟩
  · by_cases hb : b = L.b
    · subst hb
      have h1 := hr.live n o L hg hn
      rw [e] at h1
      have h2 := h1.loop
      rw [hk] at h2; cases h2
    · exact ⟨r, by rw [ht.other b hb]; exact e⟩
  · rcases EH.get_set e1 with ⟨rfl, rfl⟩ | ⟨hne, e1⟩
    · rw [Ren.put_same] at e2; cases e2; exact ⟨n, o, L, hg, hn, rfl⟩
    · rw [Ren.put_other _ _ hne] at e2; exact ⟨m, o1, M, (EH.get_del e1).2, e2, rfl⟩

end Go.Eng

namespace Go.Eng
open Go
variable [Syms]

structure TabOk (P : Program) (tb : Tab) : Prop where
  und : ∀ t d, tb.und t = some d → P.underlying t = some d
  inf : ∀ t i, tb.inf t = some i → P.info? t = some i
  fn : ∀ f x, tb.fn f = some x → P.funcs[f]? = some x
  eqst : ∀ t, tb.eqst t = true → P.stoodInHeld t = false ∧ P.eqGuardType P.depth t = false
  eqs : ∀ n y b, tb.eqs n y = some b → ∃ s, Syms.val n = .string s ∧ ((∃ l, y = .str l ∧ strEq (ofBytes s) l = b) ∨ ∃ m t, y = .sym m ∧ Syms.val m = .string t ∧ strEq (ofBytes s) (ofBytes t) = b) := by intro _ _ _ h; cases h
  lens : ∀ k n, tb.lens k = some n → ∃ s, Syms.val k = .string s ∧ s.size = n := by intro _ _ h; cases h
  kinds : ∀ n k, tb.kinds n = some k → ∃ a, Syms.val n = .int k a := by intro _ _ h; cases h
  eqi : ∀ n c b, tb.eqi n c = some b → ∀ k a, Syms.val n = .int k a → decide (a = c) = b := by intro _ _ _ h; cases h

variable {P : Program} {tb : Tab} {ρ : Ren} {h : EH} {w w' : World}

theorem TabOk.run_und (ht : TabOk P tb) {t : TypeId} {d : TypeDesc} (e : tb.und t = some d) (w : World) : (underlying t).run P w = .ok d w := run_underlying (ht.und t d e) w
theorem TabOk.run_inf (ht : TabOk P tb) {t : TypeId} {i : TypeInfo} (e : tb.inf t = some i) (w : World) : (typeInfo t).run P w = .ok i w := by
  simp [typeInfo, ht.inf t i e]
theorem TabOk.run_size (ht : TabOk P tb) {t : TypeId} {k : Nat} (e : tb.size t = some k) (w : World) : (sizeOf t).run P w = .ok k w := by
  unfold Tab.size at e
  cases hi : tb.inf t with
  | none => rw [hi] at e; cases e
  | some i => rw [hi] at e; simp at e; subst e; simp [sizeOf, ht.run_inf hi]
theorem TabOk.run_isAgg (ht : TabOk P tb) {t : TypeId} {d : TypeDesc} (e : tb.und t = some d) (w : World) : (isAgg t).run P w = .ok (isAggD d) w := by
  unfold isAgg
  simp only [Sem.run_bind, ht.run_und e, Result.andThen_ok]
  cases d <;> rfl

/-! ### Constants, operands -/

theorem conv1_rel {v : Value} {e : EV} (hc : conv1 v = some e) : VRel ρ e v ∧ v.oneCell' = true ∧ e.one = true := by
  unfold conv1 at hc
  split at hc <;> cases hc
  · exact ⟨.bool _, rfl, rfl⟩
  · exact ⟨.int _ _, rfl, rfl⟩
  · exact ⟨.str _ _ rfl, rfl, rfl⟩
  · exact ⟨.nilPtr, rfl, rfl⟩
  · exact ⟨.nilSlice, rfl, rfl⟩
  · exact ⟨.nilMap, rfl, rfl⟩
  · exact ⟨.nilFunc, rfl, rfl⟩
  · exact ⟨.nilIface, rfl, rfl⟩

theorem convL_rel : ∀ {l : List Value} {es : List EV}, convL l = some es → VRels ρ es l
  | [], es, h => by cases h; exact .nil
  | v :: l, es, h => by
    unfold convL at h
    split at h
    · rename_i e he
      split at h
      · rename_i es' hes
        cases h
        exact .cons _ _ _ _ (conv1_rel he).1 (convL_rel hes)
      · cases h
    · cases h

theorem conv_rel {v : Value} {e : EV} (hc : conv v = some e) : VRel ρ e v := by
  unfold conv at hc
  split at hc
  · split at hc
    · rename_i es hes; cases hc; exact .agg _ _ (convL_rel hes)
    · cases hc
  · split at hc
    · rename_i es hes; cases hc; exact .tuple _ _ (convL_rel hes)
    · cases hc
  · exact (conv1_rel hc).1

theorem VRel.one {e : EV} {v : Value} (hr : VRel ρ e v) (h1 : e.one = true) : v.oneCell' = true := by
  cases hr <;> first | rfl | assumption | (simp [EV.one] at h1)

theorem any_cells {v : Value} (h : v.oneCell' = true) : VRels ρ [.any] v.cells.toList := by
  cases v <;> first | (cases h; done) | exact .cons _ _ _ _ (.any _ h) .nil
theorem sym_cells {n : Nat} {v : Value} (hv : Syms.val n = v) (h1 : v.oneCell' = true) : VRels ρ [.sym n] v.cells.toList := by
  cases v <;> first | (cases h1; done) | exact .cons _ _ _ _ (.sym _ _ hv h1) .nil

theorem VRel.cells {e : EV} {v : Value} (hr : VRel ρ e v) : VRels ρ e.cells v.cells.toList := by
  cases hr <;> first
    | (rename_i h; exact h)
    | (rename_i h; exact any_cells h)
    | (rename_i hv h1; exact sym_cells hv h1)
    | (refine .cons _ _ _ _ ?_ .nil; first
        | exact .bool _ | exact .int _ _ | exact .str _ _ (by assumption) | exact .ptr _ _ _ (by assumption) | exact .nilPtr | exact .slice _ _ _ _ _ _ _ _ (by assumption) (by assumption) (by assumption) (by assumption)
        | exact .nilSlice | exact .map _ _ (by assumption) | exact .nilMap | exact .func _ _ _ _ _ (by assumption) (by assumption) (by assumption) | exact .yield _ _ (by assumption) | exact .nilFunc | exact .iface _ _ _ (by assumption) | exact .tuple _ _ (by assumption) | exact .nilIface)

theorem zero_rel (ht : TabOk P tb) {t : TypeId} {e : EV} (hz : tb.zero t = some e) : ∃ v, (∀ w, (zeroValue t).run P w = .ok v w) ∧ ∀ ρ, VRel ρ e v := by
  unfold Tab.zero at hz
  split at hz
  · rename_i i hi
    split at hz
    · rename_i v hv
      exact ⟨v, fun w => by simp [zeroValue, ht.run_inf hi, hv], fun ρ => conv_rel hz⟩
    · cases hz
  · cases hz

theorem ev_rel {f : Fr} {a : Act} (hf : FRel ρ f a.tmps) {x : Operand} {e : EV} (he : ev f x = some e) : VRel ρ e (a.eval x) := by
  cases x with
  | tmp t =>
    obtain ⟨v, hv, hr⟩ := hf.2 t e he
    simpa [Act.eval, Array.getD_eq_getD_getElem?, hv] using hr
  | const v => exact conv_rel he
  | global g => cases he
  | func g => cases he; exact .func _ _ _ _ _ (by intro l e; cases e) .nil .nil

theorem evs_rel {f : Fr} {a : Act} (hf : FRel ρ f a.tmps) : ∀ {l : List Operand} {es : List EV}, evs f l = some es → VRels ρ es (l.map a.eval)
  | [], es, he => by cases he; exact .nil
  | x :: l, es, he => by
    unfold evs at he
    split at he
    · rename_i e h1
      split at he
      · rename_i es' h2; cases he; exact .cons _ _ _ _ (ev_rel hf h1) (evs_rel hf h2)
      · cases he
    · cases he

/-! ### Cells -/

omit [Syms] in
theorem readFrom_get : ∀ {k : Nat} {c : T EV} {off : Nat} {es : List EV}, readFrom c off k = some es → es.length = k ∧ ∀ i, i < k → c.get (off + i) = es[i]?
  | 0, c, off, es, h => by cases h; exact ⟨rfl, fun i hi => by omega⟩
  | k + 1, c, off, es, h => by
    unfold readFrom at h
    split at h
    · rename_i e h1
      split at h
      · rename_i es' h2
        cases h
        obtain ⟨hl, hg⟩ := readFrom_get h2
        refine ⟨by simp [hl], fun i hi => ?_⟩
        cases i with
        | zero => simpa using h1
        | succ i =>
          have := hg i (by omega)
          rw [show Nat.add off 1 + i = off + (i + 1) by show off + 1 + i = _; omega] at this
          simpa using this
      · cases h
    · cases h

omit [Syms] in
theorem writeFrom_get : ∀ {l : List EV} {c : T EV} {off k : Nat} {v : EV}, (writeFrom c off l).get k = some v → (off ≤ k ∧ k < off + l.length ∧ l[k - off]? = some v) ∨ (¬ (off ≤ k ∧ k < off + l.length) ∧ c.get k = some v)
  | [], c, off, k, v, h => .inr ⟨by simp, h⟩
  | e :: l, c, off, k, v, h => by
    unfold writeFrom at h
    rcases writeFrom_get h with ⟨h1, h2, h3⟩ | ⟨h1, h2⟩
    · have h1' : off + 1 ≤ k := h1
      have h2' : k < off + 1 + l.length := h2
      refine .inl ⟨by omega, by simp; omega, ?_⟩
      obtain ⟨d, rfl⟩ : ∃ d, k = off + 1 + d := ⟨k - (off + 1), by omega⟩
      rw [show off + 1 + d - off = d + 1 by omega]
      have h3' : l[off + 1 + d - (off + 1)]? = some v := h3
      rw [show off + 1 + d - (off + 1) = d by omega] at h3'
      simpa using h3'
    · have h1' : ¬ (off + 1 ≤ k ∧ k < off + 1 + l.length) := h1
      rcases T.get_set _ _ _ _ _ _ h2 with ⟨rfl, rfl⟩ | ⟨hne, h2⟩
      · exact .inl ⟨Nat.le_refl _, by simp, by simp⟩
      · exact .inr ⟨by simp; omega, h2⟩

/-- What is known of a row. -/
structure RowAt (P : Program) (ρ : Ren) (w : World) (L : Loc) (t : T EV) (e : TypeId) (c : Array Value) (fr : Nat × Nat) : Prop where
  heap : w.heap[L.b]? = some (.cells c e fr)
  size : c.size = L.sz
  free : ∀ k, k < c.size → ¬ (fr.1 ≤ k ∧ k < fr.2)
  cell : ∀ k ev, t.get k = some ev → ∃ v, c[L.sh + k]? = some v ∧ VRel ρ ev v ∧ v.oneCell' = true

theorem Rel.row (hr : Rel P ρ h w) {n : Nat} {L : Loc} {t : T EV} {e : TypeId} {vr : Bool} (hg : h.get n = some (.cells t e vr)) (hn : ρ n = some L) : ∃ c fr, RowAt P ρ w L t e c fr := by
  obtain ⟨c, fr, h1, h2, _, h4, h5⟩ := hr.live n _ L hg hn
  exact ⟨c, fr, h1, h2, fun k hk => by rcases h4 with h4 | ⟨h4, _⟩ <;> omega, h5⟩

theorem RowAt.read {L : Loc} {t : T EV} {e : TypeId} {c : Array Value} {fr : Nat × Nat} (hr : RowAt P ρ w L t e c fr) {off k : Nat} {es : List EV} (hx : readFrom t off k = some es) :
    (0 < k → L.sh + off + k ≤ c.size) ∧ VRels ρ es (c.extract (L.sh + off) (L.sh + off + k)).toList := by
  obtain ⟨hl, hg⟩ := readFrom_get hx
  have hb : 0 < k → L.sh + off + k ≤ c.size := fun hk => by
    have := hg (k - 1) (by omega)
    have h2 : (es[k - 1]?).isSome := by rw [List.getElem?_eq_getElem (by omega)]; rfl
    obtain ⟨x, hx⟩ := Option.isSome_iff_exists.1 h2
    rw [hx] at this
    obtain ⟨v, hv, _⟩ := hr.cell _ _ this
    have := (Array.getElem?_eq_some_iff.1 hv).1
    omega
  refine ⟨hb, VRels.of_get ?_ fun i x hi => ?_⟩
  · rcases Nat.eq_zero_or_pos k with rfl | hk
    · simp [hl]
    · have := hb hk
      simp [hl]; omega
  · have hik : i < k := by have := (List.getElem?_eq_some_iff.1 hi).1; omega
    have h1 := hg i hik
    rw [hi] at h1
    obtain ⟨v, hv, hvr, _⟩ := hr.cell _ _ h1
    have hb' := hb (by omega)
    refine ⟨v, ?_, hvr⟩
    rw [Array.getElem?_toList, Array.getElem?_extract, if_pos (by omega), ← hv]
    congr 1
    omega

theorem run_loadCells_rel {L : Loc} {t : T EV} {e : TypeId} {c : Array Value} {fr : Nat × Nat} (hr : RowAt P ρ w L t e c fr) {off k : Nat} {es : List EV} (hx : readFrom t off k = some es) :
    ∃ vs : Array Value, (loadCells ⟨L.b, L.sh + off, none⟩ k).run P w = .ok vs w ∧ VRels ρ es vs.toList := by
  obtain ⟨hb, hv⟩ := hr.read hx
  rcases Nat.eq_zero_or_pos k with rfl | hk
  · refine ⟨#[], rfl, ?_⟩
    cases hx
    exact .nil
  · exact ⟨_, run_loadCells hr.heap (hb hk), hv⟩

omit [Syms] in
theorem EH.cell_row {n off : Nat} {v : EV} (hx : h.cell n off = some v) : ∃ t e vr, h.get n = some (.cells t e vr) ∧ t.get off = some v := by
  unfold EH.cell at hx
  split at hx
  · exact ⟨_, _, _, by assumption, hx⟩
  · cases hx
omit [Syms] in
theorem EH.read_row {n off k : Nat} {es : List EV} (hx : h.read n off k = some es) : ∃ t e vr, h.get n = some (.cells t e vr) ∧ readFrom t off k = some es := by
  unfold EH.read at hx
  split at hx
  · exact ⟨_, _, _, by assumption, hx⟩
  · cases hx

theorem cell_rel (hr : Rel P ρ h w) {n off : Nat} {v : EV} {L : Loc} (hx : h.cell n off = some v) (hn : ρ n = some L) : ∃ v', w.cell? ⟨L.b, L.sh + off, none⟩ = some v' ∧ VRel ρ v v' ∧ v'.oneCell' = true := by
  obtain ⟨t, e, vr, hg, ht⟩ := EH.cell_row hx
  obtain ⟨c, fr, hrow⟩ := hr.row hg hn
  obtain ⟨v', h1, h2, h3⟩ := hrow.cell _ _ ht
  exact ⟨v', by rw [Eng.cell_row hrow.heap]; exact h1, h2, h3⟩

theorem load_rel (ht : TabOk P tb) (hr : Rel P ρ h w) {t : TypeId} {n off : Nat} {e : EV} {L : Loc} (hx : loadE tb h t n off = some e) (hn : ρ n = some L) :
    ∃ v, (loadVar t ⟨L.b, L.sh + off, none⟩).run P w = .ok v w ∧ VRel ρ e v := by
  unfold loadE at hx
  split at hx
  · rename_i d hd
    unfold loadVar
    simp only [Sem.run_bind, ht.run_isAgg hd, Result.andThen_ok, Sem.run_ite]
    cases hag : isAggD d with
    | true =>
      rw [hag] at hx
      simp only [cond_true] at hx
      split at hx
      · rename_i k hk
        cases hrd : h.read n off k with
        | none => rw [hrd] at hx; cases hx
        | some es =>
          rw [hrd] at hx; cases hx
          obtain ⟨t', e', vr, hg, hx'⟩ := EH.read_row hrd
          obtain ⟨c, fr, hrow⟩ := hr.row hg hn
          obtain ⟨vs, h1, h2⟩ := run_loadCells_rel hrow hx'
          exact ⟨.agg vs, by simp [ht.run_size hk, h1], .agg _ _ h2⟩
      · cases hx
    | false =>
      rw [hag] at hx
      simp only [cond_false] at hx
      obtain ⟨v', h1, h2, _⟩ := cell_rel hr hx hn
      exact ⟨v', by simp [h1], h2⟩
  · cases hx

theorem write_rel (hr : Rel P ρ h w) (S : Nat → Prop) {n off : Nat} {l : List EV} {L : Loc} {h' : EH} {vs : List Value} (hx : h.write n off l = some h') (hn : ρ n = some L) (hv : VRels ρ l vs) :
    ∃ w', (storeCells ⟨L.b, L.sh + off, none⟩ vs).run P w = .ok () w' ∧ Rel P ρ h' w' ∧ Extd S ρ h w ρ h' w' := by
  unfold EH.write at hx
  split at hx
  · rename_i t e vr hg
    cases hb : (l.all EV.one && (readFrom t off l.length).isSome) with
    | false => rw [hb] at hx; cases hx
    | true =>
      rw [hb] at hx
      simp only [cond_true] at hx
      cases hx
      simp only [Bool.and_eq_true] at hb
      obtain ⟨h1, h2⟩ := hb
      obtain ⟨es, hes⟩ := Option.isSome_iff_exists.1 h2
      obtain ⟨c, fr, q1, q2, q3, q4, q5⟩ := hr.live n _ L hg hn
      have q4' : ∀ k, k < c.size → ¬ (fr.1 ≤ k ∧ k < fr.2) := fun k hk => by rcases q4 with q4 | ⟨q4, _⟩ <;> omega
      have hrow : RowAt P ρ w L t e c fr := ⟨q1, q2, q4', q5⟩
      obtain ⟨hbd, _⟩ := hrow.read hes
      have hone : ∀ v ∈ vs, v.oneCell' = true := by
        have : ∀ {l : List EV} {vs : List Value}, VRels ρ l vs → l.all EV.one = true → ∀ v ∈ vs, v.oneCell' = true := by
          intro l
          induction l with
          | nil => intro vs hv _ v hm; cases hv; cases hm
          | cons e l ih =>
            intro vs hv ha v hm
            cases hv with
            | cons _ v0 _ vs0 hv0 hvs =>
              simp only [List.all_cons, Bool.and_eq_true] at ha
              cases hm with
              | head => exact hv0.one ha.1
              | tail _ hm => exact ih hvs ha.2 v hm
        exact this hv h1
      have hlen := hv.length
      rcases Nat.eq_zero_or_pos l.length with h0 | h0
      · have : l = [] := List.eq_nil_of_length_eq_zero h0
        subst this
        cases hv
        obtain ⟨r, x⟩ := hr.turn S hg hn (.refl q1) (o' := .cells t e vr) ⟨c, fr, rfl, q2, q3, q4, q5⟩
        exact ⟨w, rfl, r, x⟩
      · have hbd' := hbd h0
        obtain ⟨w', hrun, hturn⟩ := run_storeCells (P := P) (off := L.sh + off) vs 0 c w q1 q4' (by omega) hone
        refine ⟨w', hrun, ?_⟩
        refine hr.turn S hg hn hturn ⟨_, fr, rfl, by rw [setRow_size]; exact q2, by rw [setRow_size]; exact q3, by rw [setRow_size]; exact q4, fun k ev hk => ?_⟩
        rw [setRow_get _ _ _ _ (by omega)]
        rcases writeFrom_get hk with ⟨a1, a2, a3⟩ | ⟨a1, a2⟩
        · rw [if_pos (by omega)]
          obtain ⟨v, hv1, hv2⟩ := hv.get a3
          refine ⟨v, by rw [← hv1]; congr 1; omega, hv2, hone v (List.mem_of_getElem? hv1)⟩
        · rw [if_neg (by omega)]
          exact q5 k ev a2
  · cases hx

theorem store_rel (ht : TabOk P tb) (hr : Rel P ρ h w) (S : Nat → Prop) {t : TypeId} {n off : Nat} {v : EV} {v' : Value} {L : Loc} {h' : EH} (hx : storeE tb h t n off v = some h') (hn : ρ n = some L) (hv : VRel ρ v v') :
    ∃ w', (storeVar t ⟨L.b, L.sh + off, none⟩ v').run P w = .ok () w' ∧ Rel P ρ h' w' ∧ Extd S ρ h w ρ h' w' := by
  unfold storeE at hx
  split at hx
  · rename_i k hk
    cases hb : Nat.beq v.cells.length k with
    | false => rw [hb] at hx; cases hx
    | true =>
      rw [hb] at hx
      simp only [cond_true] at hx
      have hk' := Nat.eq_of_beq_eq_true hb
      obtain ⟨w', h1, h2, h3⟩ := write_rel hr S hx hn hv.cells
      refine ⟨w', ?_, h2, h3⟩
      have hl := hv.cells.length
      unfold storeVar
      simp only [Sem.run_bind, ht.run_size hk, Result.andThen_ok]
      rw [if_neg (by simp at hl; omega)]
      simpa using h1
  · cases hx

end Go.Eng

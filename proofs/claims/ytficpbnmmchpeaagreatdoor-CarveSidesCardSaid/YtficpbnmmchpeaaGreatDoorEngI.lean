/- A part of the proof of CarveSides: a verified interpreter of the model's own code, its soundness, and contracts of the library's functions. Conditions: none. -/
import Derived.Test.YtficpbnmmchpeaaGreatDoorEngH
import Derived.Lib.Bytealg
import Derived.KernelRfl
namespace Go.Eng
open Go Go.Lib
variable [Syms]

variable {P : Program} {tb : Tab} {ρ : Ren} {h : EH} {w : World}

/-- The functions without a body, as the model has them. -/
def extSem : Ext → Array Value → Sem Value
  | .count => Extern.BytealgCount.count
  | .indexByte => Extern.BytealgIndexByte.indexByte
  | .cmp => Extern.BytealgCompare.compare
  | .noEscape => Extern.AbiNoEscape.same
  | .makeNoZero _ => fun _ => stuck ""

omit [Syms] in
theorem u8_beq (x : UInt8) (c : Nat) : (x == c.toUInt8) = Nat.beq x.toNat (Nat.mod c 256) := by
  have e : c.toUInt8.toNat = c % 256 := by simp
  by_cases h : x = c.toUInt8
  · subst h
    rw [e]
    have : Nat.beq (c % 256) (Nat.mod c 256) = true := Nat.beq_refl (c % 256)
    simp [this]
  · have h2 : x.toNat ≠ c % 256 := fun h3 => h (UInt8.toNat_inj.1 (h3.trans e.symm))
    have h3 : Nat.beq x.toNat (Nat.mod c 256) = false := by
      cases hb : Nat.beq x.toNat (Nat.mod c 256) with
      | false => rfl
      | true => exact absurd (Nat.eq_of_beq_eq_true hb) h2
    rw [h3]
    simpa using h

omit [Syms] in
theorem countE_eq (c : Nat) : ∀ l : List UInt8, countE (Nat.mod c 256) (l.map (·.toNat)) = countByte l c.toUInt8
  | [] => rfl
  | x :: l => by
    simp only [List.map_cons, countE, countByte, List.count_cons, ← u8_beq]
    rw [countE_eq c l]
    cases x == c.toUInt8 <;> rfl

omit [Syms] in
theorem indexE_eq (c : Nat) : ∀ (l : List UInt8) (i : Nat), (match indexE (Nat.mod c 256) (l.map (·.toNat)) i with
    | some k => Int.ofNat k
    | none => -1) = if indexByte l c.toUInt8 == -1 then -1 else indexByte l c.toUInt8 + i
  | [], i => rfl
  | x :: l, i => by
    simp only [List.map_cons, indexE, ← u8_beq, indexByte]
    by_cases hx : (x == c.toUInt8) = true
    · simp [hx]
    · have hx' : (x == c.toUInt8) = false := by simpa using hx
      simp only [hx', cond_false, Bool.false_eq_true, if_false]
      have := indexE_eq c l (Nat.add i 1)
      rw [this]
      have hge := indexByte_ge l c.toUInt8
      by_cases h1 : indexByte l c.toUInt8 = -1
      · simp [h1]
      · have e1 : (indexByte l c.toUInt8 == -1) = false := by simpa using h1
        have h2 : indexByte l c.toUInt8 + 1 ≠ -1 := by omega
        have e2 : (indexByte l c.toUInt8 + 1 == -1) = false := by simpa using h2
        simp only [e1, Bool.false_eq_true, if_false, e2]
        have : ((Nat.add i 1 : Nat) : Int) = (i : Int) + 1 := by show ((i + 1 : Nat) : Int) = _; omega
        rw [this]; omega

omit [Syms] in
theorem cmpE_eq : ∀ (a b : List UInt8), cmpE (a.map (·.toNat)) (b.map (·.toNat)) = compareBytes a b
  | [], [] => rfl
  | [], _ :: _ => rfl
  | _ :: _, [] => rfl
  | a :: x, b :: y => by
    have hlt : ∀ (p q : UInt8), Nat.blt p.toNat q.toNat = decide (p < q) := by
      intro p q
      show Nat.ble (p.toNat + 1) q.toNat = _
      by_cases h : p.toNat < q.toNat
      · have h1 : Nat.ble (p.toNat + 1) q.toNat = true := Nat.ble_eq_true_of_le h
        rw [h1]; symm; simpa [UInt8.lt_iff_toNat_lt] using h
      · have h1 : Nat.ble (p.toNat + 1) q.toNat = false := by
          cases hb : Nat.ble (p.toNat + 1) q.toNat with
          | false => rfl
          | true => exact absurd (Nat.le_of_ble_eq_true hb) (by omega)
        rw [h1]; symm; simpa [UInt8.lt_iff_toNat_lt] using h
    simp only [List.map_cons, cmpE, hlt, cmpE_eq x y]
    rw [show compareBytes (a :: x) (b :: y) = if a < b then -1 else if b < a then 1 else compareBytes x y from rfl]
    by_cases h1 : a < b
    · simp [h1]
    · by_cases h2 : b < a
      · simp [h1, h2]
      · have : a = b := by
          apply UInt8.toNat_inj.1
          rw [UInt8.lt_iff_toNat_lt] at h1 h2
          omega
        simp [this]

theorem ext_sound {x : Ext} {args : List EV} {args' : Array Value} {v : EV} {h' : EH} (hr : Rel P ρ h w) (ha : VRels ρ args args'.toList) (he : extE x args h = some (v, h')) (hx : ∀ e, x ≠ .makeNoZero e) :
    ∃ v', (extSem x args').run P w = .ok v' w ∧ CPost P ρ h w v h' v' w := by
  have fin : ∀ {v' : Value}, VRel ρ v v' → h' = h → CPost P ρ h w v h' v' w := by
    rintro v' q rfl
    exact ⟨ρ, q, hr, .refl _ _ _ _⟩
  obtain ⟨a'⟩ := args'
  unfold extE at he
  split at he
  · rename_i c
    cases he
    cases ha with | cons _ _ _ _ h1 h2 => ?_
    cases h2 with | cons _ _ _ _ h2 h3 => ?_
    cases h3
    cases h1 with | str s _ hs => ?_
    cases h2
    subst hs
    refine ⟨_, run_countString s c w, fin ?_ rfl⟩
    unfold ofBytes
    rw [countE_eq]
    exact .int _ _
  · rename_i c
    cases he
    cases ha with | cons _ _ _ _ h1 h2 => ?_
    cases h2 with | cons _ _ _ _ h2 h3 => ?_
    cases h3
    cases h1 with | str s _ hs => ?_
    cases h2
    subst hs
    refine ⟨_, run_indexByteString s c w, fin ?_ rfl⟩
    have : (if (indexByte s.data.toList c.toNat.toUInt8 == -1) = true then (-1 : Int) else indexByte s.data.toList c.toNat.toUInt8 + (0 : Nat)) = indexByte s.data.toList c.toNat.toUInt8 := by
      split
      · rename_i hq; exact (eq_of_beq hq).symm
      · simp
    have key := (indexE_eq c.toNat s.data.toList 0).trans this
    rw [← key]
    exact .int _ _
  · cases he
    cases ha with | cons _ _ _ _ h1 h2 => ?_
    cases h2 with | cons _ _ _ _ h2 h3 => ?_
    cases h3
    cases h1 with | str s1 _ hs1 => ?_
    cases h2 with | str s2 _ hs2 => ?_
    subst hs1 hs2
    refine ⟨_, run_compareString s1 s2 w, fin ?_ rfl⟩
    unfold ofBytes
    rw [cmpE_eq]
    exact .int _ _
  · cases he
    cases ha with | cons _ _ _ _ h1 h2 => ?_
    cases h2
    exact ⟨_, rfl, fin h1 rfl⟩
  · exact absurd rfl (hx _)
  · cases he

omit [Syms] in
theorem digits_size : ∀ (n t : Nat) (acc : Array Value), (Extern.BytealgMakeNoZero.digits n t acc).size = acc.size + n
  | 0, t, acc => rfl
  | n + 1, t, acc => by
    unfold Extern.BytealgMakeNoZero.digits
    rw [digits_size n]
    simp; omega

theorem makeNoZero_sound {e : TypeId} {ps rs : Array TypeId} {t : TypeId} {args : List EV} {args' : Array Value} {v : EV} {h' : EH} (hr : Rel P ρ h w) (ha : VRels ρ args args'.toList) (ht : rs[0]? = some t) (hu : P.underlying t = some (.slice e)) (he : extE (.makeNoZero e) args h = some (v, h')) :
    ∃ v' w', (Extern.BytealgMakeNoZero.makeNoZero ps rs args').run P w = .ok v' w' ∧ CPost P ρ h w v h' v' w' := by
  obtain ⟨a'⟩ := args'
  unfold extE at he
  split at he <;> rename_i hh <;> first
    | (cases hh; done)
    | skip
  all_goals first
    | (cases he; done)
    | skip
  rename_i n
  cases hh
  split at he
  · rename_i hn
    cases he
    cases ha with | cons _ _ _ _ h1 h2 => ?_
    cases h2; cases h1
    have hrun : ∃ cap w1, (n.toNat ≤ cap ∧ cap ≤ 9223372036854775807) ∧ (choose (.appendCap n.toNat 0 e)).run P w = .ok cap w1 ∧ w1.heap = w.heap ∧ w1.os = w.os ∧ w1.tape = w.tape ∧ w1.output = w.output :=
      ⟨_, { w with drawn := w.drawn + 1 }, ⟨Nat.le_add_right _ _, cut_le (old := 0) (e := e) (by omega)⟩, by simp [choose, Sem.run, Question.forced]; rfl, rfl, rfl, rfl, rfl⟩
    obtain ⟨cap, w1, hcap, hch, g1, g2, g3, g4⟩ := hrun
    have hrun2 : ∃ by_ w2, (choose (.extern "internal/bytealg.MakeNoZero.bytes" 0)).run P w1 = .ok by_ w2 ∧ w2.heap = w.heap ∧ w2.os = w.os ∧ w2.tape = w.tape ∧ w2.output = w.output :=
      ⟨_, { w1 with drawn := w1.drawn + 1 }, by simp [choose, Sem.run, Question.forced]; rfl, g1, g2, g3, g4⟩
    obtain ⟨by_, w2, hch2, k1, k2, k3, k4⟩ := hrun2
    have hnone := dom_next hr
    obtain ⟨r0, x0⟩ := hr.reserve (fun _ => False) (k := h.next + 1) (Nat.le_succ _)
    have hsz : (Extern.BytealgMakeNoZero.digits cap by_ #[]).size = cap := by rw [digits_size]; simp
    obtain ⟨r1, r2⟩ := r0.new (nm := h.next) (w' := { w2 with heap := w2.heap.push (.cells (Extern.BytealgMakeNoZero.digits cap by_ #[]) e) }) (o := .cells .leaf e false) (sz := cap) hnone (by simp) (by rw [← k1]) k2 k3 k4
      ⟨_, (0, 0), rfl, hsz, (fun h => by cases h), .inl rfl, fun k ev hk => by cases (show (none : Option EV) = some ev from hk)⟩
    refine ⟨.slice (some ⟨w.heap.size, 0, none⟩) n.toNat cap, _, ?_, _, ?_, r1, x0.trans r2 (fun _ h => h.elim) (fun m hm => by rw [hm]; exact Nat.le_refl _)⟩
    · have hdef : Extern.BytealgMakeNoZero.makeNoZero ps rs #[.int .i64 n] = (do
          let some t := rs[0]? | stuck "bytealg.MakeNoZero: no result type"
          let .slice elem ← underlying t | stuck "bytealg.MakeNoZero: slice type expected"
          if n < 0 || n > 2 ^ 48 then runtimePanic (.error "makeslice: len out of range")
          let cap ← choose (.appendCap n.toNat 0 elem)
          askRoom cap
          let bytes ← choose (.extern "internal/bytealg.MakeNoZero.bytes" 0)
          let a ← newRow elem (Extern.BytealgMakeNoZero.digits cap bytes #[])
          pure (.slice (some a) n.toNat cap)) := rfl
      show (Extern.BytealgMakeNoZero.makeNoZero ps rs #[.int .i64 n]).run P w = _
      rw [hdef]
      have hc : (decide (n < 0) || decide (n > 2 ^ 48)) = false := by
        simp only [Bool.or_eq_false_iff, decide_eq_false_iff_not]
        exact ⟨by omega, by omega⟩
      simp only [ht, Sem.run_bind, run_underlying hu, Result.andThen_ok, hc, Bool.false_eq_true, if_false, hch, run_askRoom, hch2, newRow, run_newObj, Sem.run_pure, k1]
    · refine .slice _ _ _ _ _ ⟨w.heap.size, 0, cap⟩ 0 cap (Ren.put_same _ _ _) hcap.1 (.wide hcap.2) (.inr ⟨rfl, ?_⟩)
      simp
  · cases he

end Go.Eng

namespace Go.Eng
open Go

/-- Each entry has it. -/
def AllIn {α : Type} (p : Nat × α → Prop) : List (Nat × α) → Prop
  | [] => True
  | a :: l => p a ∧ AllIn p l

theorem AllIn.append {α : Type} {p : Nat × α → Prop} : ∀ {l m : List (Nat × α)}, AllIn p l → AllIn p m → AllIn p (l ++ m)
  | [], _, _, h => h
  | _ :: _, _, ⟨h1, h2⟩, h => ⟨h1, h2.append h⟩

theorem AllIn.mem {α : Type} {p : Nat × α → Prop} : ∀ {l : List (Nat × α)} {x : Nat × α}, AllIn p l → x ∈ l → p x
  | _ :: _, _, ⟨h1, _⟩, .head _ => h1
  | _ :: _, _, ⟨_, h2⟩, .tail _ hm => h2.mem hm

def T.put {α : Type} (t : T α) : List (Nat × α) → T α
  | [] => t
  | a :: l => T.put (T.set 12 t a.1 a.2) l

def T.ofList {α : Type} (l : List (Nat × α)) : T α := T.put .leaf l

theorem T.put_get {α : Type} : ∀ {l : List (Nat × α)} {t : T α} {n : Nat} {v : α}, (t.put l).get n = some v → (n, v) ∈ l ∨ t.get n = some v
  | [], _, _, _, h => .inr h
  | a :: l, t, n, v, h => by
    rcases T.put_get (l := l) h with h1 | h1
    · exact .inl (List.mem_cons_of_mem _ h1)
    · rcases T.get_set _ _ _ _ _ _ h1 with ⟨rfl, rfl⟩ | ⟨_, h2⟩
      · exact .inl List.mem_cons_self
      · exact .inr h2

theorem T.ofList_get {α : Type} {p : Nat × α → Prop} {l : List (Nat × α)} {t : T α} (e : T.ofList l = t) (ha : AllIn p l) {n : Nat} {v : α} (h : t.get n = some v) : p (n, v) := by
  rw [← e] at h
  rcases T.put_get h with h1 | h1
  · exact ha.mem h1
  · cases h1

end Go.Eng

/- A part of the proof of CarveSides: a verified interpreter of the model's own code, its soundness, and contracts of the library's functions. Conditions: none. -/
import Derived.Test.YtficpbnmmchpeaaGreatDoorEngA
import GoSem.Dispatch
import Derived.Laws.StructEq
import Derived.Laws.Tables
namespace Go.Eng
open Go
variable [Syms]

variable {P : Program} {tb : Tab} {ρ : Ren} {h : EH} {w : World} {nm : Nat}

/-- Operations that may turn the world though they come to a value. -/
def noisy (o : Oper) : Bool :=
  match o.op with
  | .alloc _ | .box .. | .buildSlice .. | .makeMap .. | .makeSlice .. | .range .. | .next .. | .convert .. | .call _ => true
  | _ => false

/-- What an operation comes to, in the world. -/
def Good (P : Program) (ρ : Ren) (h : EH) (w : World) (nm : Nat) (o : Oper) (a : Act) : OR → Prop
  | .val e h' => (h' = h ∧ ∃ v, (execOp a.eval o).run P w = .ok (.value v) w ∧ VRel ρ e v) ∨
      (noisy o = true ∧ ∃ ρ' v w', (execOp a.eval o).run P w = .ok (.value v) w' ∧ VRel ρ' e v ∧ Rel P ρ' h' w' ∧ Extd (· = nm) ρ h w ρ' h' w')
  | .skip h' => ∃ w', (execOp a.eval o).run P w = .ok .skip w' ∧ Rel P ρ h' w' ∧ Extd (· = nm) ρ h w ρ h' w'
  | .enter g args => ∃ args', (execOp a.eval o).run P w = (callFunc g args').run P w ∧ VRels ρ args args'.toList
  | .round l args => ∃ L args', ρ l = some L ∧ (execOp a.eval o).run P w = (Instr.yield L.b args').run P w ∧ VRels ρ args args'.toList

theorem good_val {o : Oper} {a : Act} {e : EV} (_ : Rel P ρ h w) (hx : ∃ v, (execOp a.eval o).run P w = .ok (.value v) w ∧ VRel ρ e v) : Good P ρ h w nm o a (.val e h) :=
  let ⟨v, h1, h2⟩ := hx; .inl ⟨rfl, v, h1, h2⟩

/-! ### Numbers, texts -/

omit [Syms] in
theorem strEq_eq : ∀ (a b : List Nat), strEq a b = decide (a = b)
  | [], [] => rfl
  | [], _ :: _ => rfl
  | _ :: _, [] => rfl
  | a :: x, b :: y => by
    simp only [strEq, strEq_eq x y]
    cases hb : Nat.beq a b with
    | true => have := Nat.eq_of_beq_eq_true hb; subst this; simp
    | false => have := Nat.ne_of_beq_eq_false hb; simp [this]

omit [Syms] in
theorem ofBytes_inj {a b : ByteArray} (h : ofBytes a = ofBytes b) : a.data.toList = b.data.toList := by
  unfold ofBytes at h
  have : ∀ {l m : List UInt8}, l.map (·.toNat) = m.map (·.toNat) → l = m := by
    intro l
    induction l with
    | nil => intro m hm; cases m <;> simp_all
    | cons x l ih =>
      intro m hm
      cases m with
      | nil => simp at hm
      | cons y m => simp at hm; exact congr (congrArg _ (UInt8.toNat_inj.1 hm.1)) (ih (by simpa using hm.2))
  exact this h

omit [Syms] in
theorem toList_data (s : ByteArray) : s.toList = s.data.toList := by
  have key : ∀ (n : Nat) (i : Nat) (r : List UInt8), s.size - i = n → ByteArray.toList.loop s i r = r.reverse ++ s.data.toList.drop i := by
    intro n
    induction n with
    | zero =>
      intro i r hn
      rw [ByteArray.toList.loop]
      rw [if_neg (by omega)]
      have : s.data.toList.length ≤ i := by simpa using (by show s.size ≤ i; omega)
      simp [List.drop_eq_nil_of_le this]
    | succ n ih =>
      intro i r hn
      have hi : i < s.size := by omega
      rw [ByteArray.toList.loop, if_pos hi, ih _ _ (by omega)]
      have h2 : i < s.data.toList.length := by simpa using hi
      rw [List.drop_eq_getElem_cons h2]
      simp [ByteArray.get!, hi]
  simpa [ByteArray.toList] using key s.size 0 [] rfl

omit [Syms] in
theorem bytesLess_eq : ∀ (a b : List UInt8), Op.bytesLess a b = strLess (a.map (·.toNat)) (b.map (·.toNat))
  | _, [] => by cases ‹List UInt8› <;> rfl
  | [], _ :: _ => rfl
  | a :: x, b :: y => by
    simp only [Op.bytesLess, strLess, List.map_cons, bytesLess_eq x y]
    congr 1
    · have : (a < b) = (a.toNat < b.toNat) := by simp [UInt8.lt_iff_toNat_lt]
      simp only [this]
      show _ = Nat.ble (a.toNat + 1) b.toNat
      by_cases hlt : a.toNat < b.toNat
      · have h1 : Nat.ble (a.toNat + 1) b.toNat = true := Nat.ble_eq_true_of_le hlt
        simp [hlt, h1]
      · have : Nat.ble (a.toNat + 1) b.toNat = false := by
          cases hb : Nat.ble (a.toNat + 1) b.toNat with
          | false => rfl
          | true => exact absurd (Nat.le_of_ble_eq_true hb) (by omega)
        simp [hlt, this]
    · congr 1
      cases hb : Nat.beq a.toNat b.toNat with
      | true => have := Nat.eq_of_beq_eq_true hb; have := UInt8.toNat_inj.1 this; subst this; simp
      | false =>
        have := Nat.ne_of_beq_eq_false hb
        simp only [beq_eq_false_iff_ne, ne_eq]
        intro e; subst e; exact this rfl

theorem binInt_rel {op : BinOp} {k : IntKind} {a b : Int} {e : EV} (hx : binInt op k a b = some e) (hs : op ≠ .shl ∧ op ≠ .shr) (t : TypeId) (w : World) :
    ∃ v, (binOp op t (.int k a) (.int k b)).run P w = .ok v w ∧ VRel ρ e v := by
  cases op <;> simp only [binInt] at hx
  case add => cases hx; exact ⟨_, by simp [binOp, Op.intArith], .int _ _⟩
  case sub => cases hx; exact ⟨_, by simp [binOp, Op.intArith], .int _ _⟩
  case mul => cases hx; exact ⟨_, by simp [binOp, Op.intArith], .int _ _⟩
  case quo =>
    split at hx
    · cases hx
    · rename_i hb; cases hx; exact ⟨_, by simp [binOp, Op.intDiv, hb], .int _ _⟩
  case rem =>
    split at hx
    · cases hx
    · rename_i hb; cases hx; exact ⟨_, by simp [binOp, Op.intDiv, hb], .int _ _⟩
  case and => cases hx; exact ⟨_, by simp [binOp, Op.intBits], .int _ _⟩
  case or => cases hx; exact ⟨_, by simp [binOp, Op.intBits], .int _ _⟩
  case xor => cases hx; exact ⟨_, by simp [binOp, Op.intBits], .int _ _⟩
  case andNot => cases hx; exact ⟨_, by simp [binOp, Op.intBits], .int _ _⟩
  case eql =>
    cases hx
    have e1 : decide (a = b) = (a == b) := by by_cases h : a = b <;> simp [h]
    exact ⟨.bool (a == b), by simp only [binOp, Op.intCmp]; simp, by rw [e1]; exact .bool _⟩
  case neq =>
    cases hx
    have e1 : decide (a = b) = (a == b) := by by_cases h : a = b <;> simp [h]
    exact ⟨.bool (a != b), by simp only [binOp, Op.intCmp]; simp, by rw [e1]; exact .bool _⟩
  case lss => cases hx; exact ⟨_, by simp [binOp, Op.intCmp], .bool _⟩
  case leq => cases hx; exact ⟨_, by simp [binOp, Op.intCmp], .bool _⟩
  case gtr => cases hx; exact ⟨_, by simp [binOp, Op.intCmp], .bool _⟩
  case geq => cases hx; exact ⟨_, by simp [binOp, Op.intCmp], .bool _⟩
  case shl => exact absurd rfl hs.1
  case shr => exact absurd rfl hs.2

theorem shift_rel {op : BinOp} {k k' : IntKind} {a b : Int} {e : EV} (hx : shiftInt op k a b = some e) (t : TypeId) (w : World) :
    ∃ v, (binOp op t (.int k a) (.int k' b)).run P w = .ok v w ∧ VRel ρ e v := by
  unfold shiftInt at hx
  split at hx
  · cases hx
  · rename_i hb
    cases op <;> simp only at hx <;> first | (cases hx; done) | skip
    all_goals
      cases hx
      exact ⟨_, by simp [binOp, Op.shift, hb], .int _ _⟩

theorem binStr_rel {op : BinOp} {x y : ByteArray} {e : EV} (hx : binStr op (ofBytes x) (ofBytes y) = some e) (t : TypeId) (w : World) :
    ∃ v, (binOp op t (.string x) (.string y)).run P w = .ok v w ∧ VRel ρ e v := by
  have heq : (x.toList == y.toList) = strEq (ofBytes x) (ofBytes y) := by
    rw [strEq_eq, toList_data, toList_data]
    by_cases hxy : x.data.toList = y.data.toList
    · simp [hxy, ofBytes]
    · have h1 : ofBytes x ≠ ofBytes y := fun e => hxy (ofBytes_inj e)
      rw [decide_eq_false h1]
      simpa using hxy
  have hlt : Op.bytesLess x.toList y.toList = strLess (ofBytes x) (ofBytes y) := by rw [toList_data, toList_data, bytesLess_eq]; rfl
  cases op <;> simp only [binStr] at hx <;> first | (cases hx; done) | skip
  case add =>
    cases hb : Nat.ble ((ofBytes x).length + (ofBytes y).length) 1099511627776 with
    | false => rw [hb] at hx; cases hx
    | true =>
    rw [hb] at hx
    have hsz := Nat.le_of_ble_eq_true hb
    have l1 : (ofBytes x).length = x.size := by simp [ofBytes]
    have l2 : (ofBytes y).length = y.size := by simp [ofBytes]
    cases hx
    refine ⟨.string (x ++ y), ?_, .str _ _ (by simp [ofBytes])⟩
    have : ¬ ((x.size + y.size : Nat) : Int) > IntKind.i64.max := by
      have : IntKind.i64.max = 9223372036854775807 := by decide
      rw [this]; omega
    simp only [binOp, Op.stringOp]
    rw [if_neg this]
    rfl
  all_goals
    cases hx
    refine ⟨_, by simp only [binOp, Op.stringOp, heq, hlt]; rfl, ?_⟩
    exact .bool _

end Go.Eng

namespace Go.Eng
open Go
variable [Syms]

variable {P : Program} {tb : Tab} {ρ : Ren} {h : EH} {w : World} {nm : Nat}

omit [Syms] in
theorem string_beq (x y : ByteArray) : (x.toList == y.toList) = strEq (ofBytes x) (ofBytes y) := by
  rw [strEq_eq, toList_data, toList_data]
  by_cases hxy : x.data.toList = y.data.toList
  · simp [hxy, ofBytes]
  · have h1 : ofBytes x ≠ ofBytes y := fun e => hxy (ofBytes_inj e)
    rw [decide_eq_false h1]
    simpa using hxy

omit [Syms] in
theorem int_beq (a b : Int) : (a == b) = decide (a = b) := by by_cases h : a = b <;> simp [h]

omit [Syms] in
theorem strEq_comm (a b : List Nat) : strEq a b = strEq b a := by
  rw [strEq_eq, strEq_eq]
  by_cases h : a = b
  · subst h; rfl
  · rw [decide_eq_false h, decide_eq_false fun e => h e.symm]

theorem eqInt_val (ht : TabOk P tb) {n : Nat} {k : IntKind} {c : Int} {b : Bool} (he : eqInt tb n k c = some b) : ∃ a, Syms.val n = .int k a ∧ decide (a = c) = b := by
  unfold eqInt at he
  split at he
  · rename_i j hj
    split at he
    · rename_i hjk
      subst hjk
      obtain ⟨a, ha⟩ := ht.kinds _ _ hj
      exact ⟨a, ha, ht.eqi _ _ _ he _ _ ha⟩
    · cases he
  · cases he

theorem eqs_val (ht : TabOk P tb) {k : Nat} {y : EV} {y' : Value} {b : Bool} (he : tb.eqs k y = some b) (hy : VRel ρ y y') : ∃ s s', Syms.val k = .string s ∧ y' = .string s' ∧ strEq (ofBytes s) (ofBytes s') = b := by
  obtain ⟨s, hs, hy'⟩ := ht.eqs _ _ _ he
  rcases hy' with ⟨l, rfl, rfl⟩ | ⟨m, t', rfl, ht', rfl⟩
  · cases hy with | str s' _ hs' => ?_
    subst hs'
    exact ⟨s, s', hs, rfl, rfl⟩
  · cases hy with | sym _ _ hv' _ => ?_
    exact ⟨s, t', hs, by rw [← hv', ht'], rfl⟩

/-- What is compared with a value without a face: texts, or numbers. -/
theorem sym_meets (ht : TabOk P tb) {d : TypeDesc} {x y : EV} {x' y' : Value} {b : Bool} (hs : (∃ k, x = .sym k) ∨ ∃ k, y = .sym k) (hx : VRel ρ x x') (hy : VRel ρ y y') (he : eqOne tb d x y = some b) :
    (d = .string ∧ ∃ s s', x' = .string s ∧ y' = .string s' ∧ strEq (ofBytes s) (ofBytes s') = b) ∨ (∃ j k a c, d = .int j ∧ x' = .int k a ∧ y' = .int k c ∧ decide (a = c) = b) := by
  by_cases hsx : ∃ k, x = .sym k
  · obtain ⟨k, rfl⟩ := hsx
    cases hx with | sym _ _ hv _ => ?_
    cases d <;> (try (cases y <;> (cases he; done)))
    case string =>
      have he' : tb.eqs k y = some b := by cases y <;> exact he
      obtain ⟨s, s', h1, h2, h3⟩ := eqs_val ht he' hy
      exact .inl ⟨rfl, s, s', by rw [← hv, h1], h2, h3⟩
    case int j =>
      cases y <;> try (cases he; done)
      rename_i k2 c
      have he' : eqInt tb k k2 c = some b := he
      obtain ⟨a, h1, h2⟩ := eqInt_val ht he'
      cases hy
      exact .inr ⟨j, k2, a, c, rfl, by rw [← hv, h1], rfl, h2⟩
  · obtain ⟨k, rfl⟩ : ∃ k, y = .sym k := by rcases hs with h | h; exact absurd h hsx; exact h
    cases hy with | sym _ _ hv _ => ?_
    cases d <;> cases x <;> first | (cases he; done) | exact absurd ⟨_, rfl⟩ hsx | skip
    case string.str l =>
      have he' : tb.eqs k (.str l) = some b := he
      obtain ⟨s, s', h1, h2, h3⟩ := eqs_val ht he' hx
      exact .inl ⟨rfl, s', s, h2, by rw [← hv, h1], by rw [strEq_comm]; exact h3⟩
    case int.int j k2 c =>
      have he' : eqInt tb k k2 c = some b := he
      obtain ⟨a, h1, h2⟩ := eqInt_val ht he'
      cases hx
      refine .inr ⟨j, k2, c, a, rfl, rfl, by rw [← hv, h1], ?_⟩
      rw [← h2]
      by_cases e : a = c
      · subst e; rfl
      · rw [decide_eq_false e, decide_eq_false fun h => e h.symm]

theorem eqOne_rel (ht : TabOk P tb) {t : TypeId} {d : TypeDesc} {x y : EV} {x' y' : Value} {b : Bool} (hd : P.underlying t = some d) (hx : VRel ρ x x') (hy : VRel ρ y y') (he : eqOne tb d x y = some b) (n : Nat) (w : World) :
    (Op.equalIn (n + 1) t x' y').run P w = .ok b w := by
  have hu := run_underlying hd w
  by_cases hsy : (∃ k, x = .sym k) ∨ ∃ k, y = .sym k
  · rcases sym_meets ht hsy hx hy he with ⟨rfl, s, s', rfl, rfl, hq⟩ | ⟨j, k, c, e, rfl, rfl, rfl, hq⟩
    · rw [run_equalIn_string w n t _ _ hd, string_beq, hq]
    · rw [run_equalIn_int w n t _ _ _ _ hd, int_beq, hq]
  cases hx <;> cases hy <;> first | exact absurd (.inl ⟨_, rfl⟩) hsy | exact absurd (.inr ⟨_, rfl⟩) hsy | skip
  all_goals (simp only [eqOne] at he <;> first | (cases he; done) | skip)
  all_goals (cases d <;> simp only at he <;> first | (cases he; done) | skip)
  all_goals first
    | (cases he; unfold Op.equalIn; rw [Sem.run_bind, hu]; rfl)
    | skip
  case int.int.int =>
    split at he
    · rename_i hk; subst hk; cases he
      rw [run_equalIn_int w n t _ _ _ _ hd, int_beq]
    · cases he
  case str.str.string =>
    rename_i hs1 _ _ hs2
    cases he
    subst hs1 hs2
    rw [run_equalIn_string w n t _ _ hd, string_beq]
  case ptr.ptr.pointer =>
    rename_i L h1 m p M h2 e
    split at he
    · rename_i k hk
      split at he
      · rename_i hmk
        obtain ⟨rfl, hk0⟩ := hmk
        cases he
        rw [h1] at h2; cases h2
        unfold Op.equalIn
        rw [Sem.run_bind, hu, Result.andThen_ok]
        simp only [Sem.run_bind, Result.andThen_ok, ht.run_size hk, Sem.run_ite]
        rw [if_pos (by simpa using hk0)]
        simp only [sameAddr, beq_self_eq_true, if_true, Sem.run_pure]
        congr 1
        rw [Bool.eq_iff_iff]
        simp
      · cases he
    · cases he

end Go.Eng

namespace Go.Eng
open Go
variable [Syms]

variable {P : Program} {tb : Tab} {ρ : Ren} {h : EH} {w : World} {nm : Nat}

theorem VRels.getA {es : List EV} {vs : Array Value} {i : Nat} {e : EV} (h : VRels ρ es vs.toList) (hi : es[i]? = some e) : ∃ v, vs[i]? = some v ∧ VRel ρ e v := by
  obtain ⟨v, h1, h2⟩ := h.get hi
  exact ⟨v, by simpa using h1, h2⟩

theorem part_rel (ht : TabOk P tb) {t : TypeId} {cs : List EV} {cs' : Array Value} {off : Nat} {e : EV} (hc : VRels ρ cs cs'.toList) (hx : partE tb t cs off = some e) (w : World) :
    ∃ v, (part t cs' off).run P w = .ok v w ∧ VRel ρ e v := by
  unfold partE at hx
  split at hx
  · rename_i d hd
    unfold part
    simp only [Sem.run_bind, ht.run_isAgg hd, Result.andThen_ok, Sem.run_ite]
    cases hag : isAggD d with
    | true =>
      rw [hag] at hx
      simp only [cond_true] at hx
      split at hx
      · rename_i k hk
        cases hb : Nat.ble (Nat.add off k) cs.length with
        | false => rw [hb] at hx; cases hx
        | true =>
          rw [hb] at hx; cases hx
          refine ⟨.agg (cs'.extract off (off + k)), by simp [ht.run_size hk], .agg _ _ ?_⟩
          have := (hc.drop off).take k
          simpa [Array.toList_extract, List.extract_eq_take_drop] using this
      · cases hx
    | false =>
      rw [hag] at hx
      simp only [cond_false] at hx
      obtain ⟨v, h1, h2⟩ := hc.getA hx
      exact ⟨v, by simp [h1], h2⟩
  · cases hx

theorem eqFields_rel (ht : TabOk P tb) {xs ys : List EV} {xs' ys' : Array Value} (hx : VRels ρ xs xs'.toList) (hy : VRels ρ ys ys'.toList) (n : Nat) (w : World) :
    ∀ {fs : List Field} {b : Bool}, eqFields tb xs ys fs = some b → (Op.eqFields (n + 1) xs' ys' fs).run P w = .ok b w
  | [], b, he => by cases he; rfl
  | f :: fs, b, he => by
    unfold eqFields at he
    split at he
    · cases he
    · rename_i hn
      split at he
      · rename_i d x y hd hxi hyi
        split at he
        all_goals first | (cases he; done) | skip
        all_goals
          rename_i hq
          split at hq
          · cases hq
          · rename_i hni
            obtain ⟨x', h1, h2⟩ := hx.getA hxi
            obtain ⟨y', h3, h4⟩ := hy.getA hyi
            have hag : isAggD d = false := by
              cases d <;> first | rfl | skip
              all_goals exfalso; cases x <;> cases y <;> cases hq
            have hp1 : ∀ (c : Array Value) (v : Value), c[f.offset]? = some v → (part f.type c f.offset).run P w = .ok v w := by
              intro c v hv
              unfold part
              simp [ht.run_isAgg hd, hag, hv]
            have he' := eqOne_rel ht (ht.und _ _ hd) h2 h4 hq n w
            simp only [Op.eqFields, if_pos hn, Sem.run_bind, hp1 _ _ h1, hp1 _ _ h3, Result.andThen_ok, he']
            first
              | (simp only [Bool.not_true, Bool.false_eq_true, if_false]; exact eqFields_rel ht hx hy n w he)
              | (cases he; rfl)
      · cases he

theorem eqE_rel (ht : TabOk P tb) {t : TypeId} {x y : EV} {x' y' : Value} {b : Bool} (hx : VRel ρ x x') (hy : VRel ρ y y') (he : eqE tb t x y = some b) (n : Nat) (w : World) :
    (Op.equalIn (n + 2) t x' y').run P w = .ok b w ∧ ((∃ c, x' = .agg c) → P.eqGuardType P.depth t = false) := by
  unfold eqE at he
  split at he
  · rename_i d hd
    split at he
    · rename_i fs xs ys
      cases hq : tb.eqst t with
      | false => rw [hq] at he; cases he
      | true =>
        rw [hq] at he
        simp only [cond_true] at he
        obtain ⟨g1, g2⟩ := ht.eqst t hq
        have hu := ht.und _ _ hd
        cases hx with | agg _ xs' h1 => ?_
        cases hy with | agg _ ys' h2 => ?_
        have hf : P.fieldsOf t = fs := by simp [Program.fieldsOf, hu]
        refine ⟨?_, fun _ => g2⟩
        rw [run_equalIn_struct w (n + 1) t xs' ys' (by rw [hf]; exact hu) g1, hf]
        exact eqFields_rel ht h1 h2 n w he
    · rename_i hnot
      refine ⟨eqOne_rel ht (ht.und _ _ hd) hx hy he (n + 1) w, fun ⟨c, hc⟩ => ?_⟩
      subst hc
      cases hx with
      | agg _ _ h => cases y <;> cases he
      | any _ h => cases h
      | sym _ _ _ h => cases h
  · cases he

omit [Syms] in
theorem eqE_any_l {t : TypeId} {y : EV} (hy : ∀ k, y ≠ .sym k) : eqE tb t .any y = none := by
  unfold eqE
  cases tb.und t with
  | none => rfl
  | some d => cases d <;> cases y <;> first | rfl | exact absurd rfl (hy _)
omit [Syms] in
theorem eqE_any_r {t : TypeId} {x : EV} (hx : ∀ k, x ≠ .sym k) : eqE tb t x .any = none := by
  unfold eqE
  cases tb.und t with
  | none => rfl
  | some d => cases d <;> cases x <;> first | rfl | exact absurd rfl (hx _)
theorem eqE_sym (ht : TabOk P tb) {t : TypeId} {x y : EV} {b : Bool} {x' y' : Value} (hs : (∃ k, x = .sym k) ∨ ∃ k, y = .sym k) (h : eqE tb t x y = some b) (hx : VRel ρ x x') (hy : VRel ρ y y') :
    (∃ s s', x' = .string s ∧ y' = .string s' ∧ strEq (ofBytes s) (ofBytes s') = b) ∨ (∃ k a c, x' = .int k a ∧ y' = .int k c ∧ decide (a = c) = b) := by
  unfold eqE at h
  cases hd : tb.und t with
  | none => rw [hd] at h; cases h
  | some d =>
    rw [hd] at h
    have h' : eqOne tb d x y = some b := by
      rcases hs with ⟨k, rfl⟩ | ⟨k, rfl⟩
      · cases d <;> exact h
      · cases d <;> cases x <;> exact h
    rcases sym_meets ht hs hx hy h' with ⟨_, hq⟩ | ⟨j, k, a, c, _, hq⟩
    · exact .inl hq
    · exact .inr ⟨k, a, c, hq⟩

theorem binE_rel (ht : TabOk P tb) {op : BinOp} {t : TypeId} {x y : EV} {x' y' : Value} {e : EV} {ox oy : Operand} (hx : VRel ρ x x') (hy : VRel ρ y y') (hg : guardE ox oy x y = true) (he : binE tb op t x y = some e) (w : World) :
    ∃ v, (do eqGuard op t ox oy x' y'; binOp op t x' y' : Sem Value).run P w = .ok v w ∧ VRel ρ e v := by
  have noguard : (∀ c d, ¬ (x' = .agg c ∧ y' = .agg d)) → ¬ (x' = .nilIface ∧ y' = .nilIface) → (eqGuard op t ox oy x' y').run P w = .ok () w := by
    intro h1 h2
    unfold eqGuard
    split
    all_goals first
      | rfl
      | skip
    all_goals
      simp only [Bool.not_true, Bool.false_eq_true, if_false]
      split
      · exact absurd ⟨rfl, rfl⟩ h2
      · exact absurd ⟨rfl, rfl⟩ (h1 _ _)
      · rfl
  unfold binE at he
  split at he
  · rename_i k a k' b
    cases hx; cases hy
    have hng : (eqGuard op t ox oy (.int k a) (.int k' b)).run P w = .ok () w := noguard (fun c d ⟨e, _⟩ => by cases e) (fun ⟨e, _⟩ => by cases e)
    simp only [Sem.run_bind, hng, Result.andThen_ok]
    split at he
    · exact shift_rel he t w
    · exact shift_rel he t w
    · rename_i h1 h2
      split at he
      · rename_i hk; subst hk
        exact binInt_rel he ⟨h1, h2⟩ t w
      · cases he
  · rename_i a b
    cases hx with | str s _ hs => ?_
    cases hy with | str s' _ hs' => ?_
    subst hs hs'
    have hng : (eqGuard op t ox oy (.string s) (.string s')).run P w = .ok () w := noguard (fun c d ⟨e, _⟩ => by cases e) (fun ⟨e, _⟩ => by cases e)
    simp only [Sem.run_bind, hng, Result.andThen_ok]
    exact binStr_rel he t w
  · rename_i n1 n2
    by_cases hsy : (∃ k, x = .sym k) ∨ ∃ k, y = .sym k
    · split at he
      · obtain ⟨b, hb, rfl⟩ := Option.map_eq_some_iff.1 he
        rcases eqE_sym ht hsy hb hx hy with ⟨s, s', rfl, rfl, hq⟩ | ⟨k, c, e, rfl, rfl, hq⟩
        · have hng : (eqGuard .eql t ox oy (.string s) (.string s')).run P w = .ok () w := noguard (fun c d ⟨e, _⟩ => by cases e) (fun ⟨e, _⟩ => by cases e)
          simp only [Sem.run_bind, hng, Result.andThen_ok]
          exact binStr_rel (op := .eql) (by rw [← hq]; rfl) t w
        · have hng : (eqGuard .eql t ox oy (.int k c) (.int k e)).run P w = .ok () w := noguard (fun c d ⟨e, _⟩ => by cases e) (fun ⟨e, _⟩ => by cases e)
          simp only [Sem.run_bind, hng, Result.andThen_ok]
          exact binInt_rel (op := .eql) (by rw [← hq]; rfl) ⟨by decide, by decide⟩ t w
      · obtain ⟨b, hb, rfl⟩ := Option.map_eq_some_iff.1 he
        rcases eqE_sym ht hsy hb hx hy with ⟨s, s', rfl, rfl, hq⟩ | ⟨k, c, e, rfl, rfl, hq⟩
        · have hng : (eqGuard .neq t ox oy (.string s) (.string s')).run P w = .ok () w := noguard (fun c d ⟨e, _⟩ => by cases e) (fun ⟨e, _⟩ => by cases e)
          simp only [Sem.run_bind, hng, Result.andThen_ok]
          exact binStr_rel (op := .neq) (by rw [← hq]; rfl) t w
        · have hng : (eqGuard .neq t ox oy (.int k c) (.int k e)).run P w = .ok () w := noguard (fun c d ⟨e, _⟩ => by cases e) (fun ⟨e, _⟩ => by cases e)
          simp only [Sem.run_bind, hng, Result.andThen_ok]
          exact binInt_rel (op := .neq) (by rw [← hq]; rfl) ⟨by decide, by decide⟩ t w
      · cases he
    have hns : (∀ n, x ≠ .sym n) ∧ ∀ n, y ≠ .sym n := ⟨fun k e => hsy (.inl ⟨k, e⟩), fun k e => hsy (.inr ⟨k, e⟩)⟩
    have hna : x ≠ .any ∧ y ≠ .any := by
      constructor
      · rintro rfl
        split at he
        · rw [eqE_any_l hns.2] at he; cases he
        · rw [eqE_any_l hns.2] at he; cases he
        · cases he
      · rintro rfl
        split at he
        · rw [eqE_any_r hns.1] at he; cases he
        · rw [eqE_any_r hns.1] at he; cases he
        · cases he
    have key : ∀ b, eqE tb t x y = some b → (eqGuard op t ox oy x' y').run P w = .ok () w ∧ (Op.equal t x' y').run P w = .ok b w := by
      intro b hb
      obtain ⟨h1, h2⟩ := eqE_rel ht hx hy hb 9998 w
      refine ⟨?_, h1⟩
      by_cases hagg : ∃ c d, x' = .agg c ∧ y' = .agg d
      · obtain ⟨c, d, rfl, rfl⟩ := hagg
        exact run_eqGuard_agg w op t ox oy c d (h2 ⟨c, rfl⟩)
      · by_cases hni : x' = .nilIface ∧ y' = .nilIface
        · obtain ⟨rfl, rfl⟩ := hni
          cases hx with
          | any _ _ => exact absurd rfl hna.1
          | sym _ _ _ _ => exact absurd rfl (hns.1 _)
          | nilIface => ?_
          cases hy with
          | any _ _ => exact absurd rfl hna.2
          | sym _ _ _ _ => exact absurd rfl (hns.2 _)
          | nilIface => ?_
          unfold eqGuard
          split
          all_goals first
            | rfl
            | skip
          all_goals
            simp only [Bool.not_true, Bool.false_eq_true, if_false]
            rw [if_pos]
            · rfl
            · revert hg; clear noguard; cases ox <;> cases oy <;> simp [guardE]
        · exact noguard (fun c d e => hagg ⟨c, d, e⟩) hni
    have hbin : (op = .eql → (binOp op t x' y').run P w = ((Op.equal t x' y').run P w).andThen fun b w' => .ok (.bool b) w') ∧ (op = .neq → (binOp op t x' y').run P w = ((Op.equal t x' y').run P w).andThen fun b w' => .ok (.bool (!b)) w') := by
      constructor
      · rintro rfl
        cases hx <;> cases hy <;> first
          | exact absurd rfl hna.1
          | exact absurd rfl hna.2
          | exact absurd rfl (hns.1 _)
          | exact absurd rfl (hns.2 _)
          | exact absurd rfl (n1 _ _ _ _ rfl)
          | exact absurd rfl (n2 _ _ rfl)
          | (simp only [binOp, Sem.run_bind, Sem.run_pure]; done)
      · rintro rfl
        cases hx <;> cases hy <;> first
          | exact absurd rfl hna.1
          | exact absurd rfl hna.2
          | exact absurd rfl (hns.1 _)
          | exact absurd rfl (hns.2 _)
          | exact absurd rfl (n1 _ _ _ _ rfl)
          | exact absurd rfl (n2 _ _ rfl)
          | (simp only [binOp, Sem.run_bind, Sem.run_pure]; done)
    split at he
    · cases hq : eqE tb t x y with
      | none => rw [hq] at he; cases he
      | some b =>
        rw [hq] at he; cases he
        obtain ⟨g1, g2⟩ := key b hq
        refine ⟨.bool b, ?_, .bool b⟩
        simp only [Sem.run_bind, g1, Result.andThen_ok]
        rw [hbin.1 rfl, g2]; rfl
    · cases hq : eqE tb t x y with
      | none => rw [hq] at he; cases he
      | some b =>
        rw [hq] at he; cases he
        obtain ⟨g1, g2⟩ := key b hq
        refine ⟨.bool (!b), ?_, .bool (!b)⟩
        simp only [Sem.run_bind, g1, Result.andThen_ok]
        rw [hbin.2 rfl, g2]; rfl
    · cases he

theorem unE_rel {op : UnOp} {x e : EV} {x' : Value} (hx : VRel ρ x x') (he : unE op x = some e) (w : World) : ∃ v, (Op.unary op x').run P w = .ok v w ∧ VRel ρ e v := by
  unfold unE at he
  split at he
  · cases he; cases hx; exact ⟨_, rfl, .bool _⟩
  · cases he; cases hx; exact ⟨_, by simp [Op.unary, Op.intArith], .int _ _⟩
  · cases he

end Go.Eng

namespace Go.Eng
open Go
variable [Syms]

variable {P : Program} {tb : Tab} {ρ : Ren} {h : EH} {w : World} {nm : Nat}

/-! ### Filling -/

omit [Syms] in
theorem foldl_setRow : ∀ (l : List Value) (i off : Nat) (c : Array Value), (l.zipIdx i).foldl (fun cs (p : Value × Nat) => cs.setIfInBounds (off + p.2) p.1) c = setRow c (off + i) l
  | [], _, _, _ => rfl
  | v :: l, i, off, c => by
    simp only [List.zipIdx_cons, List.foldl_cons, setRow]
    rw [foldl_setRow l (i + 1) off, Nat.add_assoc]

omit [Syms] in
theorem fold_setRow (v c : Array Value) (off : Nat) : (v.zipIdx.foldl (fun cs (p : Value × Nat) => cs.setIfInBounds (off + p.2) p.1) c) = setRow c off v.toList := by
  have := foldl_setRow v.toList 0 off c
  rw [← Array.foldl_toList, Array.toList_zipIdx]
  simpa using this

theorem VRels.isSome {es : List EV} {vs : List Value} (h : VRels ρ es vs) (i : Nat) : (es[i]?).isSome = (vs[i]?).isSome := by
  have := h.length
  by_cases hi : i < es.length
  · rw [List.getElem?_eq_getElem hi, List.getElem?_eq_getElem (by omega)]; rfl
  · rw [List.getElem?_eq_none (by omega), List.getElem?_eq_none (by omega)]; rfl

theorem putCells_rel {cells vs : List EV} {c : Array Value} {us : List Value} {off : Nat} (hc : VRels ρ cells c.toList) (hv : VRels ρ vs us) (hb : off + vs.length ≤ cells.length) :
    VRels ρ (putCells cells off vs) (setRow c off us).toList := by
  have hl := hc.length
  have hl2 := hv.length
  have : (setRow c off us).toList = c.toList.take off ++ us ++ c.toList.drop (off + us.length) := by
    have hcl : c.toList.length = c.size := Array.length_toList
    apply List.ext_getElem?
    intro i
    rw [Array.getElem?_toList, setRow_get _ _ _ _ (by omega)]
    by_cases h1 : i < off
    · rw [if_neg (by omega), List.append_assoc, List.getElem?_append_left (by simp; omega), List.getElem?_take_of_lt h1, Array.getElem?_toList]
    · by_cases h2 : i < off + us.length
      · rw [if_pos (by omega), List.append_assoc, List.getElem?_append_right (by simp; omega), List.getElem?_append_left (by simp; omega)]
        congr 1
        simp; omega
      · rw [if_neg (by omega), List.getElem?_append_right (by simp; omega), List.getElem?_drop, Array.getElem?_toList]
        congr 1
        simp; omega
  rw [this, ← hl2]
  exact ((hc.take off).append hv).append (hc.drop _)

inductive PRel (ρ : Ren) : List (Nat × EV) → List (Nat × Value) → Prop where
  | nil : PRel ρ [] []
  | cons (i : Nat) (e : EV) (v : Value) (es : List (Nat × EV)) (vs : List (Nat × Value)) (h : VRel ρ e v) (hs : PRel ρ es vs) : PRel ρ ((i, e) :: es) ((i, v) :: vs)

theorem partsE_rel {f : Fr} {a : Act} (hf : FRel ρ f a.tmps) : ∀ {l : List (Nat × Operand)} {es : List (Nat × EV)}, partsE f l = some es → PRel ρ es (l.map fun (i, x) => (i, a.eval x))
  | [], es, he => by cases he; exact .nil
  | (i, x) :: l, es, he => by
    unfold partsE at he
    split at he
    · rename_i e h1
      split at he
      · rename_i es' h2; cases he; exact .cons _ _ _ _ _ (ev_rel hf h1) (partsE_rel hf h2)
      · cases he
    · cases he

theorem fill_rel {pl pl' : Nat → Option (Nat × Nat)} (hpl : ∀ i x, pl i = some x → pl' i = some x) : ∀ {parts : List (Nat × EV)} {parts' : List (Nat × Value)} {cells cs : List EV} {c : Array Value},
    PRel ρ parts parts' → VRels ρ cells c.toList → fillE pl cells parts = some cs → ∃ c', Instr.fill pl' c parts' = some c' ∧ VRels ρ cs c'.toList
  | [], [], cells, cs, c, _, hc, hx => by cases hx; exact ⟨c, rfl, hc⟩
  | (i, e) :: rest, (_, v) :: rest', cells, cs, c, .cons _ _ _ _ _ hv hs, hc, hx => by
    unfold fillE at hx
    split at hx
    · rename_i off size hp
      split at hx
      · rename_i hb
        obtain ⟨hb1, hb2⟩ := hb
        have hl := hv.cells.length
        have hl2 := hc.length
        simp only [Array.length_toList] at hl hl2
        obtain ⟨c', h1, h2⟩ := fill_rel hpl hs (putCells_rel hc hv.cells hb2) hx
        refine ⟨c', ?_, h2⟩
        simp only [Instr.fill, hpl _ _ hp]
        rw [if_neg (by simp; omega), fold_setRow]
        exact h1
      · cases hx
    · cases hx

theorem fieldPlaces_mapM (ht : TabOk P tb) : ∀ {fs : List Field} {pl : List (Nat × Nat)}, fieldPlaces tb fs = some pl → fs.mapM (fun f => (P.info? f.type).map fun i => (f.offset, i.size)) = some pl
  | [], pl, h => by cases h; rfl
  | f :: fs, pl, h => by
    unfold fieldPlaces at h
    split at h
    · rename_i k hk
      split at h
      · rename_i l hl
        cases h
        unfold Tab.size at hk
        cases hi : tb.inf f.type with
        | none => rw [hi] at hk; cases hk
        | some i =>
          rw [hi] at hk; cases hk
          simp [List.mapM_cons, ht.inf _ _ hi, fieldPlaces_mapM ht hl]
      · cases h
    · cases h

theorem zero_info (_ht : TabOk P tb) {t : TypeId} {e : EV} (hz : tb.zero t = some e) : ∃ i v, tb.inf t = some i ∧ i.zero = some v ∧ ∀ ρ, VRel ρ e v := by
  unfold Tab.zero at hz
  split at hz
  · rename_i i hi
    split at hz
    · rename_i v hv
      exact ⟨i, v, hi, hv, fun ρ => conv_rel hz⟩
    · cases hz
  · cases hz

omit [Syms] in
theorem size_info {t : TypeId} {k : Nat} (e : tb.size t = some k) : ∃ i, tb.inf t = some i ∧ i.size = k := by
  unfold Tab.size at e
  cases hi : tb.inf t with
  | none => rw [hi] at e; cases e
  | some i => rw [hi] at e; simp at e; exact ⟨i, rfl, e⟩

theorem build_rel (ht : TabOk P tb) {t : TypeId} {parts : List (Nat × EV)} {parts' : Array (Nat × Value)} {e : EV} (hp : PRel ρ parts parts'.toList) (hx : buildE tb t parts = some e) (w : World) :
    ∃ v, (Instr.build t parts').run P w = .ok v w ∧ VRel ρ e v := by
  unfold buildE at hx
  split at hx
  · rename_i z hz
    obtain ⟨i, zv, hi, hiz, hzr⟩ := zero_info ht hz
    split at hx
    · rename_i fs hd
      split at hx
      · rename_i pl hpl
        cases hf : fillE (fun i => pl[i]?) z.cells parts with
        | none => rw [hf] at hx; cases hx
        | some cs =>
          rw [hf] at hx; cases hx
          obtain ⟨c', h1, h2⟩ := fill_rel (pl' := (pl.toArray[·]?)) (by intro i x hx; simpa using hx) hp (hzr ρ).cells hf
          refine ⟨.agg c', run_build w t parts' c' ?_, .agg _ _ h2⟩
          simp only [Program.built, ht.inf _ _ hi, ht.und _ _ hd, hiz, fieldPlaces_mapM ht hpl]
          exact h1
      · cases hx
    · rename_i n el hd
      split at hx
      · rename_i k hk
        obtain ⟨ie, hie, hks⟩ := size_info hk
        cases hf : fillE (fun i => some (i * k, k)) z.cells parts with
        | none => rw [hf] at hx; cases hx
        | some cs =>
          rw [hf] at hx; cases hx
          obtain ⟨c', h1, h2⟩ := fill_rel (pl' := fun i => some (i * k, k)) (by intro i x hx; exact hx) hp (hzr ρ).cells hf
          refine ⟨.agg c', run_build w t parts' c' ?_, .agg _ _ h2⟩
          simp only [Program.built, ht.inf _ _ hi, ht.und _ _ hd, hiz, ht.inf _ _ hie, hks]
          exact h1
      · cases hx
    · cases hx
  · cases hx

/-! ### New rows -/

omit [Syms] in
theorem rowOf_get {l : List EV} {k : Nat} {v : EV} (h : (rowOf l).get k = some v) : l[k]? = some v := by
  rcases writeFrom_get h with ⟨_, _, h3⟩ | ⟨_, h2⟩
  · simpa using h3
  · simp [T.get] at h2

theorem VRels.ones : ∀ {l : List EV} {vs : List Value}, VRels ρ l vs → l.all EV.one = true → ∀ v ∈ vs, v.oneCell' = true
  | [], [], _, _ => fun _ h => by cases h
  | e :: l, v :: vs, .cons _ _ _ _ h hs, ha => fun u hu => by
    simp only [List.all_cons, Bool.and_eq_true] at ha
    cases hu with
    | head => exact h.one ha.1
    | tail _ hu => exact hs.ones ha.2 u hu

theorem new_row {l : List EV} {c : Array Value} {e : TypeId} {vr : Bool} {w' : World} (hr : Rel P ρ h w) (hn : ρ nm = none) (hlt : nm < h.next) (hv : VRels ρ l c.toList) (h1 : ∀ v ∈ c.toList, v.oneCell' = true)
    (hvr : vr = true → ∃ i, P.info? e = some i ∧ i.size = c.size)
    (hheap : w'.heap = w.heap.push (.cells c e)) (hos : w'.os = w.os) (htp : w'.tape = w.tape) (hou : w'.output = w.output) :
    ∃ ρ', ρ' nm = some ⟨w.heap.size, 0, c.size⟩ ∧ Rel P ρ' (h.set nm (.cells (rowOf l) e vr)) w' ∧ Extd (· = nm) ρ h w ρ' (h.set nm (.cells (rowOf l) e vr)) w' := by
  obtain ⟨r, x⟩ := hr.new (o := .cells (rowOf l) e vr) (sz := c.size) hn hlt hheap hos htp hou ⟨c, (0, 0), rfl, rfl, fun h => ⟨rfl, hvr h⟩, .inl rfl, fun k ev hk => by
    obtain ⟨v, h2, h3⟩ := hv.getA (rowOf_get hk)
    refine ⟨v, by simpa using h2, h3.mono (Ren.le_put hn), h1 v ?_⟩
    exact List.mem_of_getElem? (by simpa using h2)⟩
  exact ⟨_, Ren.put_same _ _ _, r, x⟩

omit [Syms] in
theorem repl_length (z : List EV) : ∀ n, (repl z n).length = n * z.length
  | 0 => by simp [repl]
  | n + 1 => by simp [repl, repl_length z n, Nat.add_mul, Nat.add_comm]

theorem repl_rel {z : List EV} {zv : Array Value} (hz : VRels ρ z zv.toList) (hpos : 0 < z.length) (n : Nat) : VRels ρ (repl z n) ((Array.range (n * z.length)).map (zv[· % zv.size]!)).toList := by
  have hl := hz.length
  simp only [Array.length_toList] at hl
  refine VRels.of_get (by simp [repl_length]) fun i e hi => ?_
  have hlt : i < n * z.length := by
    have := (List.getElem?_eq_some_iff.1 hi).1
    rwa [repl_length] at this
  have key : ∀ (n i : Nat), i < n * z.length → (repl z n)[i]? = z[i % z.length]? := by
    intro n
    induction n with
    | zero => intro i h; simp at h
    | succ n ih =>
      intro i h
      simp only [repl]
      by_cases hi : i < z.length
      · rw [List.getElem?_append_left hi, Nat.mod_eq_of_lt hi]
      · have h' : i < n * z.length + z.length := by rw [← Nat.succ_mul]; exact h
        rw [List.getElem?_append_right (by omega), ih _ (by omega)]
        exact congrArg (z[·]?) (Nat.mod_eq_sub_mod (by omega)).symm
  rw [key n i hlt] at hi
  obtain ⟨v, h1, h2⟩ := hz.getA hi
  refine ⟨v, ?_, h2⟩
  have hm : i % zv.size < zv.size := Nat.mod_lt _ (by omega)
  rw [hl] at h1 hlt
  simp [hl, hlt, hm] at h1 ⊢
  exact h1

end Go.Eng

namespace Go.Eng
open Go
variable [Syms]

variable {P : Program} {tb : Tab} {ρ : Ren} {h : EH} {w : World} {nm : Nat}

omit [Syms] in
theorem ofBytes_get {s : ByteArray} {i : Nat} {b : Nat} (h : (ofBytes s)[i]? = some b) : ∃ c : UInt8, s[i]? = some c ∧ c.toNat = b := by
  unfold ofBytes at h
  rw [List.getElem?_map] at h
  cases hc : s.data.toList[i]? with
  | none => rw [hc] at h; cases h
  | some c =>
    rw [hc] at h
    simp at h
    refine ⟨c, ?_, h⟩
    have hc' : s.data[i]? = some c := by simpa using hc
    obtain ⟨hi, hg⟩ := Array.getElem?_eq_some_iff.1 hc'
    have hs : i < s.size := hi
    rw [getElem?_pos s i hs]
    exact congrArg some hg

omit [Syms] in
theorem ofBytes_length (s : ByteArray) : (ofBytes s).length = s.size := by simp [ofBytes]

omit [Syms] in
theorem ofBytes_extract (s : ByteArray) (l h : Nat) : ofBytes (s.extract l h) = ((ofBytes s).take h).drop l := by
  unfold ofBytes
  rw [ByteArray.data_extract, Array.toList_extract, List.extract_eq_take_drop, List.map_take, List.map_drop, List.drop_take]

/-- An operand that need not be there. -/
def OptR (ρ : Ren) : Option EV → Option Value → Prop
  | none, none => True
  | some e, some v => VRel ρ e v
  | _, _ => False

theorem evo_rel {f : Fr} {a : Act} (hf : FRel ρ f a.tmps) {x : Option Operand} {e : Option EV} (he : evo f x = some e) : OptR ρ e (x.map a.eval) := by
  cases x with
  | none => cases he; trivial
  | some x =>
    simp only [evo] at he
    cases h1 : ev f x with
    | none => rw [h1] at he; cases he
    | some e' => rw [h1] at he; cases he; exact ev_rel hf h1

/-- The value of a bound that was told. -/
theorem boundE_some {x : Option EV} {v : Option Value} {d l : Nat} (hr : OptR ρ x v) (hb : boundE x d = some l) : (x = none ∧ v = none ∧ l = d) ∨ ∃ k, x.isSome = true ∧ v = some (.int k (l : Int)) := by
  cases x with
  | none =>
    cases v with
    | none => simp only [boundE] at hb; cases hb; exact .inl ⟨rfl, rfl, rfl⟩
    | some v => cases hr
  | some e =>
    cases v with
    | none => cases hr
    | some v =>
      unfold boundE at hb
      split at hb
      · rename_i h; cases h
      · rename_i k n h
        cases h
        cases hr
        split at hb
        · rename_i hn; cases hb
          refine .inr ⟨k, rfl, ?_⟩
          rw [Int.toNat_of_nonneg hn]
        · cases hb
      · cases hb

omit [Syms] in
theorem run_sliceBound {k : IntKind} {l y : Nat} (h : l ≤ y) (code : BoundsCode) (w : World) : (Instr.sliceBound (.int k (l : Int)) y code).run P w = .ok l w := by
  simp only [Instr.sliceBound, asIntOf, Sem.run_bind, Sem.run_pure, Result.andThen_ok]
  rw [if_pos ⟨by omega, by omega⟩]
  simp

theorem run_sliceBounds2 {lo hi : Option EV} {lo' hi' : Option Value} {len cap l hh : Nat} (b : Bool) (h1 : OptR ρ lo lo') (h2 : OptR ρ hi hi') (b1 : boundE lo 0 = some l) (b2 : boundE hi len = some hh) (hl : l ≤ hh) (hc : hh ≤ cap) (w : World) :
    (Instr.sliceBounds b len cap lo' hi' none).run P w = .ok (l, hh, cap) w := by
  unfold Instr.sliceBounds
  rcases boundE_some h1 b1 with ⟨_, rfl, rfl⟩ | ⟨k1, _, rfl⟩ <;> rcases boundE_some h2 b2 with ⟨_, rfl, rfl⟩ | ⟨k2, _, rfl⟩ <;>
    simp [run_sliceBound hl, run_sliceBound hc]

theorem run_sliceBounds3 {lo : Option EV} {hi mx : EV} {lo' : Option Value} {hi' mx' : Value} {len cap l hh m : Nat} (b : Bool) (h1 : OptR ρ lo lo') (h2 : VRel ρ hi hi') (h3 : VRel ρ mx mx') (b1 : boundE lo 0 = some l) (b2 : boundE (some hi) len = some hh) (b3 : boundE (some mx) 0 = some m)
    (hl : l ≤ hh) (hm : hh ≤ m) (hc : m ≤ cap) (w : World) :
    (Instr.sliceBounds b len cap lo' (some hi') (some mx')).run P w = .ok (l, hh, m) w := by
  unfold Instr.sliceBounds
  rcases boundE_some (x := some mx) (v := some mx') h3 b3 with ⟨h, _⟩ | ⟨k3, _, h3⟩
  · cases h
  cases h3
  rcases boundE_some (x := some hi) (v := some hi') h2 b2 with ⟨h, _⟩ | ⟨k2, _, h2⟩
  · cases h
  cases h2
  rcases boundE_some h1 b1 with ⟨_, rfl, rfl⟩ | ⟨k1, _, rfl⟩ <;>
    simp [run_sliceBound hl, run_sliceBound hc, run_sliceBound hm]

theorem sliceOf_rel {n off es l hh m len0 c0 : Nat} {cap : Option Nat} {L : Loc} {o : Nat} (hn : ρ n = some L) (hl : l ≤ hh) (hm : hh ≤ m) (hc : m ≤ c0) (ho : c0 = 0 ∨ (o = L.sh + off ∧ o + c0 * es ≤ L.sz)) (hcap : cap = some (m - l)) (_ : len0 = hh - l) :
    VRel ρ (sliceOf n off es l hh m cap) (.slice (if m = l then some ⟨L.b, o, none⟩ else some ((⟨L.b, o, none⟩ : Addr).add (l * es))) (hh - l) (m - l)) := by
  unfold sliceOf
  cases hb : Nat.beq m l with
  | true =>
    have := Nat.eq_of_beq_eq_true hb
    subst this
    have e1 : hh - m = 0 := by omega
    simp only [cond_true, if_true, Nat.sub_self, e1]
    exact .slice _ _ _ _ _ L o 0 hn (Nat.le_refl _) (.told _) (.inl rfl)
  | false =>
    have hne := Nat.ne_of_beq_eq_false hb
    simp only [cond_false, if_neg hne, addr_add]
    refine .slice _ _ _ _ _ L _ _ hn (by omega) (by rw [hcap]; exact .told _) ?_
    rcases ho with h0 | ⟨rfl, h2⟩
    · omega
    · refine .inr ⟨by omega, ?_⟩
      have e1 : l * es + (m - l) * es = m * es := by rw [← Nat.add_mul]; congr 1; omega
      have e2 : m * es ≤ c0 * es := Nat.mul_le_mul_right _ hc
      omega

theorem slice_rel (ht : TabOk P tb) (hr : Rel P ρ h w) {t : TypeId} {x : EV} {x' : Value} {lo hi mx : Option EV} {lo' hi' mx' : Option Value} {e : EV} (hx : VRel ρ x x') (h1 : OptR ρ lo lo') (h2 : OptR ρ hi hi') (h3 : OptR ρ mx mx') (he : sliceE tb h t x lo hi mx = some e) :
    ∃ v, (Instr.sliceAt t x' lo' hi' mx').run P w = .ok v w ∧ VRel ρ e v := by
  unfold sliceE at he
  split at he
  · rename_i hd
    split at he
    · rename_i s
      split at he
      · rename_i l hh b1 b2
        split at he
        · rename_i hb; cases he
          cases hx with | str s' _ hs => ?_
          subst hs
          cases mx' with
          | some v => cases h3
          | none =>
            rw [ofBytes_length] at b2 hb
            refine ⟨.string (s'.extract l hh), ?_, .str _ _ (ofBytes_extract _ _ _)⟩
            unfold Instr.sliceAt
            simp only [Sem.run_bind, ht.run_und hd, Result.andThen_ok, Instr.slice]
            simp [run_sliceBounds2 false h1 h2 b1 b2 hb.1 hb.2]
        · cases he
      · cases he
    · cases he
  · rename_i el hd
    split at he
    · cases he
    · rename_i es hes
      have hsl : ∀ a len cap, (Instr.sliceAt t (.slice a len cap) lo' hi' mx').run P w = ((Instr.sliceBounds true len cap lo' hi' mx').run P w).andThen fun r w' => .ok (.slice (if r.2.2 = r.1 then a else a.map (·.add (r.1 * es))) (r.2.1 - r.1) (r.2.2 - r.1)) w' := by
        intro a len cap
        unfold Instr.sliceAt
        simp only [Sem.run_bind, ht.run_und hd, Result.andThen_ok, Instr.slice]
        generalize (Instr.sliceBounds true len cap lo' hi' mx').run P w = r
        cases r with
        | ok v w' => obtain ⟨l, hh, m⟩ := v; simp [ht.run_size hes]
        | halt _ _ => rfl
      split at he
      · split at he
        · split at he
          · rename_i b1 b2
            cases he
            cases hx
            cases mx' with
            | some v => cases h3
            | none =>
              refine ⟨.slice none 0 0, ?_, .nilSlice⟩
              rw [hsl, run_sliceBounds2 true h1 h2 b1 b2 (Nat.le_refl _) (Nat.le_refl _)]
              rfl
          · cases he
        · split at he
          · split at he
            · rename_i b1 b2 b3
              cases he
              cases hx
              cases mx' with
              | none => cases h3
              | some mx' =>
                cases hi' with
                | none => cases h2
                | some hi' =>
                  refine ⟨.slice none 0 0, ?_, .nilSlice⟩
                  rw [hsl, run_sliceBounds3 true h1 h2 h3 b1 b2 b3 (Nat.le_refl _) (Nat.le_refl _) (Nat.le_refl _)]
                  rfl
            · cases he
          · cases he
      · rename_i n off len cap es'
        split at he
        · rename_i hes'
          subst hes'
          cases hx with | slice _ _ _ _ _ L o c hn hlc hcc ho => ?_
          split at he
          · rename_i l hh b1 b2
            split at he
            · cases mx' with
              | some v => cases h3
              | none =>
                split at he
                · split at he
                  · rename_i hb; cases he
                    refine ⟨_, by rw [hsl, run_sliceBounds2 true h1 h2 b1 b2 hb.1 (by omega)]; rfl, ?_⟩
                    simp only [Option.map_some, addr_add]
                    by_cases hcl : c = l
                    · subst hcl
                      have e1 : hh - c = 0 := by omega
                      simp only [if_true, Nat.sub_self, e1]
                      exact .slice _ _ _ _ _ L o 0 hn (Nat.le_refl _) (.wide (by omega)) (.inl rfl)
                    · simp only [if_neg hcl]
                      refine .slice _ _ _ _ _ L _ _ hn (by omega) (.wide (by have := hcc.2 rfl; omega)) ?_
                      rcases ho with h0 | ⟨rfl, h2⟩
                      · omega
                      · refine .inr ⟨by omega, ?_⟩
                        have e1 : l * es' + (c - l) * es' = c * es' := by rw [← Nat.add_mul]; congr 1; omega
                        omega
                  · cases he
                · rename_i c0
                  have := hcc.1 _ rfl
                  subst this
                  split at he
                  · rename_i hb; cases he
                    refine ⟨_, by rw [hsl, run_sliceBounds2 true h1 h2 b1 b2 hb.1 hb.2]; rfl, ?_⟩
                    exact sliceOf_rel (len0 := hh - l) hn hb.1 hb.2 (Nat.le_refl _) ho rfl rfl
                  · cases he
            · rename_i m
              split at he
              · rename_i hi1 m1 b3
                split at he
                · rename_i hb; cases he
                  cases mx' with
                  | none => cases h3
                  | some mx' =>
                    cases hi' with
                    | none => cases h2
                    | some hi' =>
                      have hmc : m1 ≤ c := by
                        cases cap with
                        | none => simp only [Option.getD_none] at hb; omega
                        | some k => simp only [Option.getD_some] at hb; have := hcc.1 k rfl; omega
                      refine ⟨_, by rw [hsl, run_sliceBounds3 true h1 h2 h3 b1 b2 b3 hb.1 hb.2.1 hmc]; rfl, ?_⟩
                      exact sliceOf_rel (len0 := hh - l) hn hb.1 hb.2.1 hmc ho rfl rfl
                · cases he
              · cases he
          · cases he
        · cases he
      · cases he
  · rename_i k el hd
    split at he
    · rename_i n off es hes
      split at he
      · rename_i l hh b1 b2
        split at he
        · rename_i hb; cases he
          cases hx with | ptr _ _ L hn => ?_
          cases mx' with
          | some v => cases h3
          | none =>
            obtain ⟨q1, q2, q3, q4⟩ := hb
            obtain ⟨v0, hv0⟩ := Option.isSome_iff_exists.1 q4
            obtain ⟨t0, e0, vr, hg, ht0⟩ := EH.cell_row hv0
            obtain ⟨c, fr, hrow⟩ := hr.row hg hn
            obtain ⟨v1, hv1, _⟩ := hrow.cell _ _ ht0
            have hlt := (Array.getElem?_eq_some_iff.1 hv1).1
            have hsz := hrow.size
            refine ⟨.slice (some (if k = l then ⟨L.b, L.sh + off, none⟩ else (⟨L.b, L.sh + off, none⟩ : Addr).add (l * es))) (hh - l) (k - l), ?_, ?_⟩
            · unfold Instr.sliceAt
              simp only [Sem.run_bind, ht.run_und hd, Result.andThen_ok, Instr.sureAddr, Sem.run_pure, run_sliceBounds2 false h1 h2 b1 b2 q1 q2, ht.run_size hes]
            · have := sliceOf_rel (ρ := ρ) (off := off) (o := L.sh + off) (es := es) (len0 := hh - l) (c0 := k) (cap := some (k - l)) hn q1 q2 (Nat.le_refl _) (.inr ⟨rfl, by omega⟩) rfl rfl
              by_cases hkl : k = l
              · simpa [hkl] using this
              · simpa [hkl] using this
        · cases he
      · cases he
    · cases he
  · cases he

end Go.Eng

namespace Go.Eng
open Go
variable [Syms]

variable {P : Program} {tb : Tab} {ρ : Ren} {h : EH} {w : World} {nm : Nat} {f : Fr} {a : Act} {o : Oper} {r : OR}

theorem good_v {e : EV} {s : Sem Value} (he : execOp a.eval o = (do pure (.value (← s)))) (hr : Rel P ρ h w) (hs : ∃ v, s.run P w = .ok v w ∧ VRel ρ e v) : Good P ρ h w nm o a (.val e h) := by
  obtain ⟨v, h1, h2⟩ := hs
  refine good_val hr ⟨v, ?_, h2⟩
  rw [he, Sem.run_bind, h1]
  rfl

theorem good_new {e : EV} {h' : EH} {s : Sem Value} (he : execOp a.eval o = (do pure (.value (← s)))) (hs : ∃ ρ' v w', s.run P w = .ok v w' ∧ VRel ρ' e v ∧ Rel P ρ' h' w' ∧ Extd (· = nm) ρ h w ρ' h' w') (hz : noisy o = true) : Good P ρ h w nm o a (.val e h') := by
  obtain ⟨ρ', v, w', h1, h2, h3, h4⟩ := hs
  refine .inr ⟨hz, ρ', v, w', ?_, h2, h3, h4⟩
  rw [he, Sem.run_bind, h1]
  rfl

theorem good_skip {h' : EH} {s : Sem Unit} (he : execOp a.eval o = (do s; pure .skip)) (hs : ∃ w', s.run P w = .ok () w' ∧ Rel P ρ h' w' ∧ Extd (· = nm) ρ h w ρ h' w') : Good P ρ h w nm o a (.skip h') := by
  obtain ⟨w', h1, h3, h4⟩ := hs
  refine ⟨w', ?_, h3, h4⟩
  rw [he, Sem.run_bind, h1]
  rfl

omit [Syms] in
theorem map_some {α β : Type} {x : Option α} {g : α → β} {r : β} (h : x.map g = some r) : ∃ a, x = some a ∧ r = g a := by
  cases x with
  | none => cases h
  | some a => cases h; exact ⟨a, rfl, rfl⟩

theorem sound_move {x : Operand} (hf : FRel ρ f a.tmps) (hr : Rel P ρ h w) (ho : o.op = .move x ∨ o.op = .assign x) (hx : opE tb h nm f o = some r) : Good P ρ h w nm o a r := by
  rcases ho with ho | ho <;>
  · simp only [opE, ho] at hx
    obtain ⟨e, h1, rfl⟩ := map_some hx
    exact good_val hr ⟨a.eval x, by simp only [execOp, ho, Sem.run_pure], ev_rel hf h1⟩

theorem sound_pick {c x y : Operand} (hf : FRel ρ f a.tmps) (hr : Rel P ρ h w) (ho : o.op = .pick c x y) (hx : opE tb h nm f o = some r) : Good P ρ h w nm o a r := by
  simp only [opE, ho] at hx
  split at hx
  · rename_i t hc
    obtain ⟨e, h1, rfl⟩ := map_some hx
    have hc' := ev_rel hf hc
    generalize hcv : a.eval c = cv at hc'
    cases hc'
    refine good_val hr ⟨if t then a.eval x else a.eval y, ?_, ?_⟩
    · simp only [execOp, ho, hcv, asBool, Sem.run_bind, Sem.run_pure, Result.andThen_ok]
    · cases t
      · exact ev_rel hf h1
      · exact ev_rel hf h1
  · cases hx

theorem sound_build {t : TypeId} {ps : Array (Nat × Operand)} (ht : TabOk P tb) (hf : FRel ρ f a.tmps) (hr : Rel P ρ h w) (ho : o.op = .build t ps) (hx : opE tb h nm f o = some r) : Good P ρ h w nm o a r := by
  simp only [opE, ho] at hx
  split at hx
  · rename_i l hl
    obtain ⟨e, h1, rfl⟩ := map_some hx
    have := partsE_rel hf hl
    refine good_v (s := Instr.build t (ps.map fun (i, x) => (i, a.eval x))) (by simp only [execOp, ho]) hr ?_
    exact build_rel ht (by simpa using this) h1 w
  · cases hx

theorem sound_load {t : TypeId} {x : Operand} (ht : TabOk P tb) (hf : FRel ρ f a.tmps) (hr : Rel P ρ h w) (ho : o.op = .load t x) (hx : opE tb h nm f o = some r) : Good P ρ h w nm o a r := by
  simp only [opE, ho] at hx
  split at hx
  · rename_i n off hx0
    obtain ⟨e, h1, rfl⟩ := map_some hx
    have hxr := ev_rel hf hx0
    generalize hv : a.eval x = v at hxr
    cases hxr with | ptr _ _ L hn => ?_
    obtain ⟨v', h2, h3⟩ := load_rel ht hr h1 hn
    exact good_v (s := Instr.loadAt t (a.eval x)) (by simp only [execOp, ho]) hr ⟨v', by simpa [hv, Instr.loadAt, Instr.sureAddr] using h2, h3⟩
  · cases hx

theorem sound_store {t : TypeId} {x y : Operand} (ht : TabOk P tb) (hf : FRel ρ f a.tmps) (hr : Rel P ρ h w) (ho : o.op = .store t x y) (hx : opE tb h nm f o = some r) : Good P ρ h w nm o a r := by
  simp only [opE, ho] at hx
  split at hx
  · rename_i n off v hx0 hy0
    obtain ⟨h', h1, rfl⟩ := map_some hx
    have hxr := ev_rel hf hx0
    have hyr := ev_rel hf hy0
    generalize hv : a.eval x = xv at hxr
    cases hxr with | ptr _ _ L hn => ?_
    obtain ⟨w', h2, h3, h4⟩ := store_rel ht hr (· = nm) h1 hn hyr
    exact good_skip (s := Instr.storeAt t (a.eval x) (a.eval y)) (by simp only [execOp, ho]) ⟨w', by simpa [hv, Instr.storeAt, Instr.sureAddr] using h2, h3, h4⟩
  · cases hx

theorem sound_nilCheck {x : Operand} (hf : FRel ρ f a.tmps) (hr : Rel P ρ h w) (ho : o.op = .nilCheck x) (hx : opE tb h nm f o = some r) : Good P ρ h w nm o a r := by
  simp only [opE, ho] at hx
  split at hx
  · rename_i hx0
    cases hx
    have hxr := ev_rel hf hx0
    refine good_val hr ⟨a.eval x, ?_, hxr⟩
    simp only [execOp, ho]
    generalize a.eval x = v at hxr
    cases hxr; rfl
  · rename_i hx0
    cases hx
    have hxr := ev_rel hf hx0
    refine good_val hr ⟨a.eval x, ?_, hxr⟩
    simp only [execOp, ho]
    generalize a.eval x = v at hxr
    cases hxr; rfl
  · rename_i hx0
    cases hx
    have hxr := ev_rel hf hx0
    refine good_val hr ⟨a.eval x, ?_, hxr⟩
    simp only [execOp, ho]
    generalize a.eval x = v at hxr
    cases hxr; rfl
  · cases hx

theorem sound_binOp {op : BinOp} {t k : TypeId} {x y : Operand} (ht : TabOk P tb) (hf : FRel ρ f a.tmps) (hr : Rel P ρ h w) (ho : o.op = .binOp op t x y k) (hx : opE tb h nm f o = some r) : Good P ρ h w nm o a r := by
  simp only [opE, ho] at hx
  split at hx
  · rename_i e1 e2 h1 h2
    cases hg : guardE x y e1 e2 with
    | false => rw [hg] at hx; cases hx
    | true =>
      rw [hg] at hx
      simp only [cond_true] at hx
      obtain ⟨e, h3, rfl⟩ := map_some hx
      exact good_v (s := do eqGuard op t x y (a.eval x) (a.eval y); binOp op t (a.eval x) (a.eval y)) (by simp only [execOp, ho]) hr (binE_rel ht (ev_rel hf h1) (ev_rel hf h2) hg h3 w)
  · cases hx

theorem sound_unOp {op : UnOp} {t : TypeId} {x : Operand} (hf : FRel ρ f a.tmps) (hr : Rel P ρ h w) (ho : o.op = .unOp op t x) (hx : opE tb h nm f o = some r) : Good P ρ h w nm o a r := by
  simp only [opE, ho] at hx
  split at hx
  · rename_i e1 h1
    obtain ⟨e, h3, rfl⟩ := map_some hx
    exact good_v (s := Op.unary op (a.eval x)) (by simp only [execOp, ho]) hr (unE_rel (ev_rel hf h1) h3 w)
  · cases hx

theorem sound_makeInterface {t : TypeId} {x : Operand} (ht : TabOk P tb) (hf : FRel ρ f a.tmps) (hr : Rel P ρ h w) (ho : o.op = .makeInterface t x) (hx : opE tb h nm f o = some r) : Good P ρ h w nm o a r := by
  simp only [opE, ho] at hx
  split at hx
  · rename_i v d h1 hd
    split at hx
    · cases hx
    · rename_i hni
      cases hx
      refine good_v (s := Instr.makeInterface t (a.eval x)) (by simp only [execOp, ho]) hr ⟨.iface t (a.eval x), ?_, .iface _ _ _ (ev_rel hf h1)⟩
      unfold Instr.makeInterface
      simp only [Sem.run_bind, ht.run_und hd, Result.andThen_ok]
      cases d <;> first
        | exact absurd rfl (hni _)
        | rfl
  · cases hx

theorem sound_makeFunc {fn : Fn} {fi ca : Array Operand} (hf : FRel ρ f a.tmps) (hr : Rel P ρ h w) (ho : o.op = .makeFunc fn fi ca) (hx : opE tb h nm f o = some r) : Good P ρ h w nm o a r := by
  simp only [opE, ho] at hx
  split at hx
  · cases hx
  · rename_i hny
    split at hx
    · rename_i l1 l2 h1 h2
      cases hx
      refine good_v (s := Instr.makeFunc fn (fi.map a.eval) (ca.map a.eval)) (by simp only [execOp, ho]) hr ⟨.func fn (fi.map a.eval) (ca.map a.eval), rfl, .func _ _ _ _ _ (fun l e => hny l e) ?_ ?_⟩
      · simpa using evs_rel hf h1
      · simpa using evs_rel hf h2
    · cases hx

theorem sound_slice {t : TypeId} {x : Operand} {lo hi mx : Option Operand} (ht : TabOk P tb) (hf : FRel ρ f a.tmps) (hr : Rel P ρ h w) (ho : o.op = .slice t x lo hi mx) (hx : opE tb h nm f o = some r) : Good P ρ h w nm o a r := by
  simp only [opE, ho] at hx
  split at hx
  · rename_i h1 h2 h3 h4
    obtain ⟨e, h5, rfl⟩ := map_some hx
    exact good_v (s := Instr.sliceAt t (a.eval x) (lo.map a.eval) (hi.map a.eval) (mx.map a.eval)) (by simp only [execOp, ho]) hr (slice_rel ht hr (ev_rel hf h1) (evo_rel hf h2) (evo_rel hf h3) (evo_rel hf h4) h5)
  · cases hx

theorem sound_fieldAddr {s : TypeId} {x : Operand} {i : Nat} (ht : TabOk P tb) (hf : FRel ρ f a.tmps) (hr : Rel P ρ h w) (ho : o.op = .fieldAddr s x i) (hx : opE tb h nm f o = some r) : Good P ρ h w nm o a r := by
  simp only [opE, ho] at hx
  split at hx
  · rename_i fs n off hd h1
    split at hx
    · rename_i fd hfd
      split at hx
      · rename_i k hk
        split at hx
        · cases hx
        · rename_i hk0
          cases hx
          have hxr := ev_rel hf h1
          generalize hv : a.eval x = v at hxr
          cases hxr with | ptr _ _ L hn => ?_
          refine good_v (s := Instr.fieldAt s (a.eval x) i) (by simp only [execOp, ho]) hr ⟨.pointer (some ⟨L.b, L.sh + (off + fd.offset), none⟩), ?_, .ptr _ _ L hn⟩
          rw [hv]
          unfold Instr.fieldAt
          simp only [Sem.run_bind, ht.run_und hd, Result.andThen_ok, hfd, Instr.sureAddr, Sem.run_pure, fieldPlace, ht.run_size hk, if_neg hk0, addr_add, Nat.add_assoc]
      · cases hx
    · cases hx
  · cases hx

theorem sound_field {t : TypeId} {x : Operand} {i : Nat} (ht : TabOk P tb) (hf : FRel ρ f a.tmps) (hr : Rel P ρ h w) (ho : o.op = .field t x i) (hx : opE tb h nm f o = some r) : Good P ρ h w nm o a r := by
  simp only [opE, ho] at hx
  split at hx
  · rename_i fs cs hd h1
    split at hx
    · rename_i fd hfd
      obtain ⟨e, h2, rfl⟩ := map_some hx
      have hxr := ev_rel hf h1
      generalize hv : a.eval x = v at hxr
      cases hxr with | agg _ cs' hcs => ?_
      refine good_v (s := Instr.field t (a.eval x) i) (by simp only [execOp, ho]) hr ?_
      obtain ⟨v, h3, h4⟩ := part_rel ht hcs h2 w
      refine ⟨v, ?_, h4⟩
      rw [hv]
      unfold Instr.field
      simp only [Sem.run_bind, ht.run_und hd, Result.andThen_ok, hfd, asAgg, Sem.run_pure, h3]
    · cases hx
  · cases hx

theorem sound_indexAddr {t : TypeId} {x i : Operand} (ht : TabOk P tb) (hf : FRel ρ f a.tmps) (hr : Rel P ρ h w) (ho : o.op = .indexAddr t x i) (hx : opE tb h nm f o = some r) : Good P ρ h w nm o a r := by
  simp only [opE, ho] at hx
  split at hx
  · rename_i e n off len cap es ik k hd h1 h2
    split at hx
    · rename_i hb
      obtain ⟨b1, b2, b3⟩ := hb
      cases hx
      have hxr := ev_rel hf h1
      have hir := ev_rel hf h2
      generalize hv : a.eval x = v at hxr
      generalize hi : a.eval i = iv at hir
      cases hxr with | slice _ _ _ _ _ L o' c hn hlc hcc hoo => ?_
      cases hir
      have ho' : o' = L.sh + off := by
        rcases hoo with h0 | ⟨h0, _⟩
        · omega
        · exact h0
      refine good_v (s := Instr.indexAt t (a.eval x) (a.eval i)) (by simp only [execOp, ho]) hr ⟨.pointer (some ⟨L.b, L.sh + (off + k.toNat * es), none⟩), ?_, .ptr _ _ L hn⟩
      rw [hv, hi]
      unfold Instr.indexAt
      simp only [asIntOf, Sem.run_bind, Sem.run_pure, ht.run_und hd, Result.andThen_ok]
      rw [if_pos ⟨b1, b2⟩]
      simp only [Sem.run_bind, Sem.run_pure, ht.run_size b3, Result.andThen_ok, addr_add, ho', Nat.add_assoc]
    · cases hx
  · rename_i len e n off ik k hd h1 h2
    split at hx
    · rename_i es hes
      split at hx
      · rename_i hb
        cases hx
        have hxr := ev_rel hf h1
        have hir := ev_rel hf h2
        generalize hv : a.eval x = v at hxr
        generalize hi : a.eval i = iv at hir
        cases hxr with | ptr _ _ L hn => ?_
        cases hir
        refine good_v (s := Instr.indexAt t (a.eval x) (a.eval i)) (by simp only [execOp, ho]) hr ⟨.pointer (some ⟨L.b, L.sh + (off + k.toNat * es), none⟩), ?_, .ptr _ _ L hn⟩
        rw [hv, hi]
        unfold Instr.indexAt
        simp only [asIntOf, Sem.run_bind, Sem.run_pure, ht.run_und hd, Result.andThen_ok, Instr.sureAddr]
        rw [if_pos hb]
        simp only [Sem.run_bind, Sem.run_pure, ht.run_size hes, Result.andThen_ok, addr_add, Nat.add_assoc]
      · cases hx
    · cases hx
  · cases hx

theorem sound_index {t : TypeId} {x i : Operand} (ht : TabOk P tb) (hf : FRel ρ f a.tmps) (hr : Rel P ρ h w) (ho : o.op = .index t x i) (hx : opE tb h nm f o = some r) : Good P ρ h w nm o a r := by
  simp only [opE, ho] at hx
  split at hx
  · rename_i s ik k hd h1 h2
    split at hx
    · rename_i hk
      split at hx
      · rename_i b hb
        cases hx
        have hxr := ev_rel hf h1
        have hir := ev_rel hf h2
        generalize hv : a.eval x = v at hxr
        generalize hi : a.eval i = iv at hir
        cases hxr with | str s' _ hs => ?_
        cases hir
        subst hs
        obtain ⟨c, hc, hcb⟩ := ofBytes_get hb
        subst hcb
        refine good_v (s := Instr.index t (a.eval x) (a.eval i)) (by simp only [execOp, ho]) hr ⟨.int .u8 c.toNat, ?_, .int _ _⟩
        rw [hv, hi]
        unfold Instr.index
        simp only [asIntOf, Sem.run_bind, Sem.run_pure, ht.run_und hd, Result.andThen_ok, if_pos hk, hc]
      · cases hx
    · cases hx
  · rename_i len e cs ik k hd h1 h2
    split at hx
    · rename_i es hes
      split at hx
      · rename_i hb
        obtain ⟨e', h3, rfl⟩ := map_some hx
        have hxr := ev_rel hf h1
        have hir := ev_rel hf h2
        generalize hv : a.eval x = v at hxr
        generalize hi : a.eval i = iv at hir
        cases hxr with | agg _ cs' hcs => ?_
        cases hir
        obtain ⟨v, h4, h5⟩ := part_rel ht hcs h3 w
        refine good_v (s := Instr.index t (a.eval x) (a.eval i)) (by simp only [execOp, ho]) hr ⟨v, ?_, h5⟩
        rw [hv, hi]
        unfold Instr.index
        simp only [asIntOf, Sem.run_bind, Sem.run_pure, ht.run_und hd, Result.andThen_ok, if_pos hb, ht.run_size hes, h4]
      · cases hx
    · cases hx
  · cases hx

theorem sound_typeAssert {x : Operand} {u t : TypeId} {ok : Bool} (ht : TabOk P tb) (hf : FRel ρ f a.tmps) (hr : Rel P ρ h w) (ho : o.op = .typeAssert x u t ok) (hx : opE tb h nm f o = some r) : Good P ρ h w nm o a r := by
  simp only [opE, ho] at hx
  split at hx
  · rename_i d x0 hd h1
    split at hx
    · cases hx
    · rename_i hni
      have hxr := ev_rel hf h1
      have he : execOp a.eval o = (do pure (.value (← Instr.typeAssert (a.eval x) u t ok))) := by simp only [execOp, ho]
      generalize hv : a.eval x = v at hxr he
      split at hx
      · rename_i t' v'
        cases hxr with | iface _ _ vv hvv => ?_
        split at hx
        · rename_i htt
          cases hx
          subst htt
          refine good_v he hr ⟨if ok then .tuple #[vv, .bool true] else vv, ?_, ?_⟩
          · unfold Instr.typeAssert
            simp only [Sem.run_bind, ht.run_und hd, Result.andThen_ok]
            cases d <;> first
              | exact absurd rfl (hni _)
              | simp
          · cases ok
            · exact hvv
            · exact .tuple _ _ (.cons _ _ _ _ hvv (.cons _ _ _ _ (.bool _) .nil))
        · rename_i htt
          split at hx
          · rename_i hok
            obtain ⟨z, hz, rfl⟩ := map_some hx
            obtain ⟨zv, hzr, hzv⟩ := zero_rel ht hz
            refine good_v he hr ⟨.tuple #[zv, .bool false], ?_, .tuple _ _ (.cons _ _ _ _ (hzv ρ) (.cons _ _ _ _ (.bool _) .nil))⟩
            unfold Instr.typeAssert
            simp only [Sem.run_bind, ht.run_und hd, Result.andThen_ok]
            cases d <;> first
              | exact absurd rfl (hni _)
              | simp [htt, hok, hzr]
          · cases hx
      · cases hxr
        split at hx
        · rename_i hok
          obtain ⟨z, hz, rfl⟩ := map_some hx
          obtain ⟨zv, hzr, hzv⟩ := zero_rel ht hz
          refine good_v he hr ⟨.tuple #[zv, .bool false], ?_, .tuple _ _ (.cons _ _ _ _ (hzv ρ) (.cons _ _ _ _ (.bool _) .nil))⟩
          unfold Instr.typeAssert
          simp only [Sem.run_bind, ht.run_und hd, Result.andThen_ok]
          cases d <;> first
            | exact absurd rfl (hni _)
            | simp [hok, hzr]
        · cases hx
      · cases hx
  · cases hx

theorem sound_extract {x : Operand} {i : Nat} (hf : FRel ρ f a.tmps) (hr : Rel P ρ h w) (ho : o.op = .extract x i) (hx : opE tb h nm f o = some r) : Good P ρ h w nm o a r := by
  simp only [opE, ho] at hx
  split at hx
  · rename_i vs h1
    obtain ⟨e, h2, rfl⟩ := map_some hx
    have hxr := ev_rel hf h1
    have he : execOp a.eval o = (do pure (.value (← Instr.extract (a.eval x) i))) := by simp only [execOp, ho]
    generalize hv : a.eval x = v at hxr he
    cases hxr with | tuple _ vs' hvs => ?_
    obtain ⟨v, h3, h4⟩ := hvs.getA h2
    exact good_v he hr ⟨v, by simp [Instr.extract, h3], h4⟩
  · cases hx

end Go.Eng

namespace Go.Eng
open Go
variable [Syms]

variable {P : Program} {tb : Tab} {ρ : Ren} {h : EH} {w : World} {nm : Nat} {f : Fr} {a : Act} {o : Oper} {r : OR}

theorem sound_alloc {e : TypeId} (ht : TabOk P tb) (hr : Rel P ρ h w) (hn : ρ nm = none) (hlt : nm < h.next) (ho : o.op = .alloc e) (hx : opE tb h nm f o = some r) : Good P ρ h w nm o a r := by
  simp only [opE, ho] at hx
  split at hx
  · rename_i z hz
    cases hc : (z.cells.all EV.one && decide (tb.size e = some z.cells.length)) with
    | false => rw [hc] at hx; cases hx
    | true =>
      rw [hc] at hx
      cases hx
      simp only [Bool.and_eq_true, decide_eq_true_eq] at hc
      obtain ⟨v, hzr, hzv⟩ := zero_rel ht hz
      obtain ⟨i, hi, his⟩ := size_info hc.2
      have hv := (hzv ρ).cells
      have hl := hv.length
      obtain ⟨ρ', h1, h2, h3⟩ := new_row (w' := { w with heap := w.heap.push (.cells v.cells e) }) (e := e) (vr := true) hr hn hlt hv (hv.ones hc.1) (fun _ => ⟨i, ht.inf _ _ hi, by rw [his, hl]; simp⟩) rfl rfl rfl rfl
      refine good_new (hz := by simp only [noisy, ho]) (s := Instr.alloc e true (.tuple #[])) (by simp only [execOp, ho]) ⟨ρ', .pointer (some ⟨w.heap.size, 0, none⟩), _, ?_, ?_, h2, h3⟩
      · unfold Instr.alloc
        simp [hzr, newVar, newRow]
      · exact .ptr nm 0 _ h1
  · cases hx

theorem sound_box {e : TypeId} {x : Operand} (ht : TabOk P tb) (hf : FRel ρ f a.tmps) (hr : Rel P ρ h w) (hn : ρ nm = none) (hlt : nm < h.next) (ho : o.op = .box e x) (hx : opE tb h nm f o = some r) : Good P ρ h w nm o a r := by
  simp only [opE, ho] at hx
  split at hx
  · rename_i z hz
    cases hc : (z.cells.all EV.one && decide (tb.size e = some z.cells.length)) with
    | false => rw [hc] at hx; cases hx
    | true =>
      rw [hc] at hx
      cases hx
      simp only [Bool.and_eq_true, decide_eq_true_eq] at hc
      obtain ⟨i, hi, his⟩ := size_info hc.2
      have hv := (ev_rel hf hz).cells
      have hl := hv.length
      obtain ⟨ρ', h1, h2, h3⟩ := new_row (w' := { w with heap := w.heap.push (.cells (a.eval x).cells e) }) (e := e) (vr := true) hr hn hlt hv (hv.ones hc.1) (fun _ => ⟨i, ht.inf _ _ hi, by rw [his, hl]; simp⟩) rfl rfl rfl rfl
      refine good_new (hz := by simp only [noisy, ho]) (s := Instr.box e (a.eval x)) (by simp only [execOp, ho]) ⟨ρ', .pointer (some ⟨w.heap.size, 0, none⟩), _, ?_, ?_, h2, h3⟩
      · unfold Instr.box
        simp [newVar, newRow]
      · exact .ptr nm 0 _ h1
  · cases hx

omit [Syms] in
theorem range0 (g : Nat → Value) : ((Array.range 0).map g).toList = [] := by simp
omit [Syms] in
theorem range0' (g : Nat → Value) : (Array.range 0).map g = #[] := by simp

omit [Syms] in
theorem wrap_small {n : Int} (h0 : 0 ≤ n) (h1 : n ≤ 1099511627776) : IntKind.i64.wrap n = n := by
  have e1 : IntKind.i64.bits = 64 := rfl
  have e2 : IntKind.i64.signed = true := rfl
  unfold IntKind.wrap
  simp only [e1, e2]
  have e3 : n % 2 ^ 64 = n := Int.emod_eq_of_lt h0 (by omega)
  rw [e3]
  rw [if_neg]
  simp only [Bool.true_and, decide_eq_true_eq, ge_iff_le]
  show ¬ (2 ^ (64 - 1) ≤ n)
  omega

/-- The zeroes of a row. -/
theorem zeroRow_rel (ht : TabOk P tb) {e : TypeId} {n k : Nat} {z : List EV} (hz : zeroRow tb e n = some z) (hk : tb.size e = some k) : ∃ zv : Array Value, (n * k ≠ 0 → ∃ v, (∀ w, (zeroValue e).run P w = .ok v w) ∧ v.cells = zv) ∧
    ((n * k = 0) → VRels ρ z [] ) ∧ (n * k ≠ 0 → zv.size = k ∧ VRels ρ z ((Array.range (n * k)).map (zv[· % zv.size]!)).toList) ∧ z.all EV.one = true ∧ z.length = n * k := by
  unfold zeroRow at hz
  split at hz
  · rename_i h0; cases hz; subst h0
    exact ⟨#[], fun h => by simp at h, fun _ => .nil, fun h => by simp at h, rfl, by simp⟩
  · rename_i h0
    split at hz
    · rename_i zz k' hzz hk'
      rw [hk] at hk'; cases hk'
      cases hc : (Nat.beq zz.cells.length k && Nat.blt 0 k && zz.cells.all EV.one) with
      | false => rw [hc] at hz; cases hz
      | true =>
        rw [hc] at hz; cases hz
        simp only [Bool.and_eq_true] at hc
        obtain ⟨⟨c1, c2⟩, c3⟩ := hc
        have c1 := Nat.eq_of_beq_eq_true c1
        have c2 : 0 < k := Nat.le_of_ble_eq_true c2
        obtain ⟨v, hzr, hzv⟩ := zero_rel ht hzz
        have hv := (hzv ρ).cells
        have hl := hv.length
        have hne : n * k ≠ 0 := by
          have := Nat.mul_pos (Nat.pos_of_ne_zero h0) c2
          omega
        refine ⟨v.cells, fun _ => ⟨v, hzr, rfl⟩, fun h => absurd h hne, fun _ => ⟨by simp at hl; omega, ?_⟩, ?_, by rw [repl_length, c1]⟩
        · have := repl_rel hv (by omega) n
          rw [c1] at this
          exact this
        · clear hne h0
          induction n with
          | zero => rfl
          | succ n ih => simp only [repl, List.all_append, Bool.and_eq_true]; exact ⟨c3, ih⟩
    · cases hz

theorem sound_buildSlice {t : TypeId} {len : Nat} {ps : Array (Nat × Operand)} (ht : TabOk P tb) (hf : FRel ρ f a.tmps) (hr : Rel P ρ h w) (hn : ρ nm = none) (hlt : nm < h.next) (ho : o.op = .buildSlice t len ps) (hx : opE tb h nm f o = some r) : Good P ρ h w nm o a r := by
  simp only [opE, ho] at hx
  split at hx
  · rename_i e hd
    split at hx
    · rename_i es z l hes hz hl
      split at hx
      · rename_i cs hcs
        split at hx
        · rename_i hb
          obtain ⟨hb1, hb2⟩ := hb
          cases hx
          have hps := partsE_rel hf hl
          obtain ⟨zv, q1, q2, q3, q4, q5⟩ := zeroRow_rel (ρ := ρ) ht hz hes
          have hzz : VRels ρ z ((Array.range (len * es)).map (zv[· % zv.size]!)).toList := by
            by_cases h0 : len * es = 0
            · rw [h0, range0]; exact q2 h0
            · exact (q3 h0).2
          obtain ⟨c', h1, h2⟩ := fill_rel (pl' := fun i => some (i * es, es)) (fun i x hx => hx) hps hzz hcs
          obtain ⟨ρ', h3, h4, h5⟩ := new_row (w' := { w with heap := w.heap.push (.cells c' e) }) (e := e) (vr := false) hr hn hlt h2 (h2.ones hb2) (fun h => by cases h) rfl rfl rfl rfl
          refine good_new (hz := by simp only [noisy, ho]) (s := Instr.buildSlice t len (ps.map fun (i, x) => (i, a.eval x))) (by simp only [execOp, ho]) ⟨ρ', .slice (some ⟨w.heap.size, 0, none⟩) len len, _, ?_, ?_, h4, h5⟩
          · unfold Instr.buildSlice
            simp only [Sem.run_bind, ht.run_und hd, Result.andThen_ok, ht.run_size hes]
            rw [if_neg (by omega)]
            by_cases h0 : len * es = 0
            · rw [h0, range0'] at h1
              have h1' : Instr.fill (fun i => some (i * es, es)) #[] (ps.map fun (i, x) => (i, a.eval x)).toList = some c' := by
                simpa using h1
              simp only [h0, if_true, Sem.run_bind, Sem.run_pure, Result.andThen_ok, range0', h1']
              simp [newRow]
            · obtain ⟨v, hv1, hv2⟩ := q1 h0
              simp only [if_neg h0, Sem.run_bind, hv1, Sem.run_pure, Result.andThen_ok, hv2]
              have h1' : Instr.fill (fun i => some (i * es, es)) ((Array.range (len * es)).map (zv[· % zv.size]!)) (ps.map fun (i, x) => (i, a.eval x)).toList = some c' := by
                simpa using h1
              simp only [h1']
              simp [newRow]
          · refine .slice _ _ _ _ _ _ _ _ h3 (Nat.le_refl _) (.told _) (.inr ⟨rfl, ?_⟩)
            have e1 := h2.length
            have e2 : cs.length = z.length := by
              have key : ∀ {pl : Nat → Option (Nat × Nat)} {l : List (Nat × EV)} {x y : List EV}, fillE pl x l = some y → y.length = x.length := by
                intro pl l
                induction l with
                | nil => intro x y h; cases h; rfl
                | cons p l ih =>
                  intro x y h
                  obtain ⟨i, v⟩ := p
                  unfold fillE at h
                  split at h
                  · split at h
                    · rename_i hb
                      rw [ih h]
                      simp [putCells]; omega
                    · cases h
                  · cases h
              exact key hcs
            simp at e1 ⊢
            omega
        · cases hx
      · cases hx
    · cases hx
  · cases hx

theorem sound_makeMap {t : TypeId} (hr : Rel P ρ h w) (hn : ρ nm = none) (hlt : nm < h.next) (ho : o.op = .makeMap t none) (hx : opE tb h nm f o = some r) : Good P ρ h w nm o a r := by
  simp only [opE, ho] at hx
  cases hx
  obtain ⟨h1, h2⟩ := hr.new (w' := { w with heap := w.heap.push (.map #[] 0) }) (o := .map [] 0) (sz := 0) hn hlt rfl rfl rfl rfl ⟨#[], rfl, trivial⟩
  refine good_new (hz := by simp only [noisy, ho]) (s := Instr.makeMap t none) (by simp only [execOp, ho, Option.map_none]) ⟨_, .map (some w.heap.size), _, ?_, ?_, h1, h2⟩
  · simp [Instr.makeMap]
  · exact .map nm _ (Ren.put_same _ _ _)

theorem sound_makeSlice {t : TypeId} {l c : Operand} (ht : TabOk P tb) (hf : FRel ρ f a.tmps) (hr : Rel P ρ h w) (hn : ρ nm = none) (hlt : nm < h.next) (ho : o.op = .makeSlice t l c) (hx : opE tb h nm f o = some r) : Good P ρ h w nm o a r := by
  simp only [opE, ho] at hx
  split at hx
  · rename_i e k1 l0 k2 c0 hd hl hc
    split at hx
    · rename_i es i hes hi
      split at hx
      · rename_i hb
        obtain ⟨b0, b1, b2⟩ := hb
        split at hx
        · rename_i z hz
          cases hx
          have hlr := ev_rel hf hl
          have hcr := ev_rel hf hc
          have he : execOp a.eval o = (do pure (.value (← Instr.makeSlice t (a.eval l) (a.eval c)))) := by simp only [execOp, ho]
          generalize hlv : a.eval l = lv at hlr he
          generalize hcv : a.eval c = cv at hcr he
          cases hlr; cases hcr
          obtain ⟨zv, q1, q2, q3, q4, q5⟩ := zeroRow_rel (ρ := ρ) ht hz hes
          have hzz : VRels ρ z ((Array.range (c0.toNat * es)).map (zv[· % zv.size]!)).toList := by
            by_cases h0 : c0.toNat * es = 0
            · rw [h0, range0]; exact q2 h0
            · exact (q3 h0).2
          obtain ⟨ρ', h3, h4, h5⟩ := new_row (w' := { w with heap := w.heap.push (.cells ((Array.range (c0.toNat * es)).map (zv[· % zv.size]!)) e) }) (e := e) (vr := false) hr hn hlt hzz (hzz.ones q4) (fun h => by cases h) rfl rfl rfl rfl
          refine good_new (hz := by simp only [noisy, ho]) he ⟨ρ', .slice (some ⟨w.heap.size, 0, none⟩) l0.toNat c0.toNat, _, ?_, ?_, h4, h5⟩
          · unfold Instr.makeSlice
            simp only [Sem.run_bind, ht.run_und hd, Result.andThen_ok, asInt, asIntOf, Sem.run_pure, ht.run_inf hi]
            obtain ⟨b2, b3⟩ := b2
            rw [wrap_small b0 (by omega), wrap_small (by omega) b2]
            have tl : (decide (c0 < 0) || decide ((i.bytes : Int) * c0 > 2 ^ 48)) = false := by
              rw [Int.mul_comm]
              simp only [Bool.or_eq_false_iff, decide_eq_false_iff_not]
              exact ⟨by omega, by omega⟩
            have tl2 : (decide (l0 < 0) || decide (l0 > c0)) = false := by
              simp only [Bool.or_eq_false_iff, decide_eq_false_iff_not]
              exact ⟨by omega, by omega⟩
            have t2 : decide (l0 < 0) = false := by simp; omega
            have t3 : decide (l0 > c0) = false := by simp; omega
            simp only [tl, t2, t3, Bool.or_false, Bool.false_eq_true, if_false, run_askRoom, Result.andThen_ok, ht.run_size hes, Sem.run_bind]
            by_cases h0 : c0.toNat * es = 0
            · simp only [h0, if_true, range0']
              simp [newRow]
            · obtain ⟨v, hv1, hv2⟩ := q1 h0
              simp only [if_neg h0, Sem.run_bind, hv1, Sem.run_pure, Result.andThen_ok, hv2]
              simp [newRow]
          · refine .slice _ _ _ _ _ _ _ _ h3 (by omega) (.told _) (.inr ⟨rfl, ?_⟩)
            simp
        · cases hx
      · cases hx
    · cases hx
  · cases hx

end Go.Eng

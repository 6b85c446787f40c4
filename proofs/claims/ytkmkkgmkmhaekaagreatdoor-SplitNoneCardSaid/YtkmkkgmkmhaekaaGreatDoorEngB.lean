/- A part of the proof of SplitNone: a verified interpreter of the model's own code and its soundness. Conditions: none. -/
import Derived.Test.YtkmkkgmkmhaekaaGreatDoorEngA
import GoSem.Dispatch
import Derived.Laws.StructEq
namespace Go.Eng
open Go

variable {P : Program} {tb : Tab} {ρ : Ren} {h : EH} {w : World} {nm : Nat}

/-- Operations that may turn the world though they come to a value. -/
def noisy (o : Oper) : Bool :=
  match o.op with
  | .alloc _ | .box .. | .buildSlice .. | .makeMap .. | .makeSlice .. | .range .. | .next .. | .convert .. | .call _ => true
  | _ => false

/-- What an operation comes to, in the world. -/
def Good (P : Program) (ρ : Ren) (h : EH) (w : World) (nm : Nat) (o : Oper) (a : Act) : OR → Prop
  | .val e h' => (h' = h ∧ ∃ v, (execOp a.eval o).run P w = .ok (.value v) w ∧ VRel ρ e v) ∨
      (noisy o = true ∧ ∃ ρ' v w', (execOp a.eval o).run P w = .ok (.value v) w' ∧ VRel ρ' e v ∧ Rel P ρ' h' w' ∧ Extd (· = nm) ρ h w ρ' h' w')
  | .skip h' => ∃ w', (execOp a.eval o).run P w = .ok .skip w' ∧ Rel P ρ h' w' ∧ Extd (· = nm) ρ h w ρ h' w'
  | .enter g args => ∃ args', (execOp a.eval o).run P w = (callFunc g args').run P w ∧ VRels ρ args args'.toList
  | .round l args => ∃ L args', ρ l = some L ∧ (execOp a.eval o).run P w = (Instr.yield L.b args').run P w ∧ VRels ρ args args'.toList

theorem good_val {o : Oper} {a : Act} {e : EV} (_ : Rel P ρ h w) (hx : ∃ v, (execOp a.eval o).run P w = .ok (.value v) w ∧ VRel ρ e v) : Good P ρ h w nm o a (.val e h) :=
  let ⟨v, h1, h2⟩ := hx; .inl ⟨rfl, v, h1, h2⟩

/-! ### Numbers, texts -/

theorem strEq_eq : ∀ (a b : List Nat), strEq a b = decide (a = b)
  | [], [] => rfl
  | [], _ :: _ => rfl
  | _ :: _, [] => rfl
  | a :: x, b :: y => by
    simp only [strEq, strEq_eq x y]
    cases hb : Nat.beq a b with
    | true => have := Nat.eq_of_beq_eq_true hb; subst this; simp
    | false => have := Nat.ne_of_beq_eq_false hb; simp [this]

theorem ofBytes_inj {a b : ByteArray} (h : ofBytes a = ofBytes b) : a.data.toList = b.data.toList := by
  unfold ofBytes at h
  have : ∀ {l m : List UInt8}, l.map (·.toNat) = m.map (·.toNat) → l = m := by
    intro l
    induction l with
    | nil => intro m hm; cases m <;> simp_all
    | cons x l ih =>
      intro m hm
      cases m with
      | nil => simp at hm
      | cons y m => simp at hm; exact congr (congrArg _ (UInt8.toNat_inj.1 hm.1)) (ih (by simpa using hm.2))
  exact this h

theorem toList_data (s : ByteArray) : s.toList = s.data.toList := by
  have key : ∀ (n : Nat) (i : Nat) (r : List UInt8), s.size - i = n → ByteArray.toList.loop s i r = r.reverse ++ s.data.toList.drop i := by
    intro n
    induction n with
    | zero =>
      intro i r hn
      rw [ByteArray.toList.loop]
      rw [if_neg (by omega)]
      have : s.data.toList.length ≤ i := by simpa using (by show s.size ≤ i; omega)
      simp [List.drop_eq_nil_of_le this]
    | succ n ih =>
      intro i r hn
      have hi : i < s.size := by omega
      rw [ByteArray.toList.loop, if_pos hi, ih _ _ (by omega)]
      have h2 : i < s.data.toList.length := by simpa using hi
      rw [List.drop_eq_getElem_cons h2]
      simp [ByteArray.get!, hi]
  simpa [ByteArray.toList] using key s.size 0 [] rfl

theorem bytesLess_eq : ∀ (a b : List UInt8), Op.bytesLess a b = strLess (a.map (·.toNat)) (b.map (·.toNat))
  | _, [] => by cases ‹List UInt8› <;> rfl
  | [], _ :: _ => rfl
  | a :: x, b :: y => by
    simp only [Op.bytesLess, strLess, List.map_cons, bytesLess_eq x y]
    congr 1
    · have : (a < b) = (a.toNat < b.toNat) := by simp [UInt8.lt_iff_toNat_lt]
      simp only [this]
      show _ = Nat.ble (a.toNat + 1) b.toNat
      by_cases hlt : a.toNat < b.toNat
      · have h1 : Nat.ble (a.toNat + 1) b.toNat = true := Nat.ble_eq_true_of_le hlt
        simp [hlt, h1]
      · have : Nat.ble (a.toNat + 1) b.toNat = false := by
          cases hb : Nat.ble (a.toNat + 1) b.toNat with
          | false => rfl
          | true => exact absurd (Nat.le_of_ble_eq_true hb) (by omega)
        simp [hlt, this]
    · congr 1
      cases hb : Nat.beq a.toNat b.toNat with
      | true => have := Nat.eq_of_beq_eq_true hb; have := UInt8.toNat_inj.1 this; subst this; simp
      | false =>
        have := Nat.ne_of_beq_eq_false hb
        simp only [beq_eq_false_iff_ne, ne_eq]
        intro e; subst e; exact this rfl

theorem binInt_rel {op : BinOp} {k : IntKind} {a b : Int} {e : EV} (hx : binInt op k a b = some e) (hs : op ≠ .shl ∧ op ≠ .shr) (t : TypeId) (w : World) :
    ∃ v, (binOp op t (.int k a) (.int k b)).run P w = .ok v w ∧ VRel ρ e v := by
  cases op <;> simp only [binInt] at hx
  case add => cases hx; exact ⟨_, by simp [binOp, Op.intArith], .int _ _⟩
  case sub => cases hx; exact ⟨_, by simp [binOp, Op.intArith], .int _ _⟩
  case mul => cases hx; exact ⟨_, by simp [binOp, Op.intArith], .int _ _⟩
  case quo =>
    split at hx
    · cases hx
    · rename_i hb; cases hx; exact ⟨_, by simp [binOp, Op.intDiv, hb], .int _ _⟩
  case rem =>
    split at hx
    · cases hx
    · rename_i hb; cases hx; exact ⟨_, by simp [binOp, Op.intDiv, hb], .int _ _⟩
  case and => cases hx; exact ⟨_, by simp [binOp, Op.intBits], .int _ _⟩
  case or => cases hx; exact ⟨_, by simp [binOp, Op.intBits], .int _ _⟩
  case xor => cases hx; exact ⟨_, by simp [binOp, Op.intBits], .int _ _⟩
  case andNot => cases hx; exact ⟨_, by simp [binOp, Op.intBits], .int _ _⟩
  case eql =>
    cases hx
    have e1 : decide (a = b) = (a == b) := by by_cases h : a = b <;> simp [h]
    exact ⟨.bool (a == b), by simp only [binOp, Op.intCmp]; simp, by rw [e1]; exact .bool _⟩
  case neq =>
    cases hx
    have e1 : decide (a = b) = (a == b) := by by_cases h : a = b <;> simp [h]
    exact ⟨.bool (a != b), by simp only [binOp, Op.intCmp]; simp, by rw [e1]; exact .bool _⟩
  case lss => cases hx; exact ⟨_, by simp [binOp, Op.intCmp], .bool _⟩
  case leq => cases hx; exact ⟨_, by simp [binOp, Op.intCmp], .bool _⟩
  case gtr => cases hx; exact ⟨_, by simp [binOp, Op.intCmp], .bool _⟩
  case geq => cases hx; exact ⟨_, by simp [binOp, Op.intCmp], .bool _⟩
  case shl => exact absurd rfl hs.1
  case shr => exact absurd rfl hs.2

theorem shift_rel {op : BinOp} {k k' : IntKind} {a b : Int} {e : EV} (hx : shiftInt op k a b = some e) (t : TypeId) (w : World) :
    ∃ v, (binOp op t (.int k a) (.int k' b)).run P w = .ok v w ∧ VRel ρ e v := by
  unfold shiftInt at hx
  split at hx
  · cases hx
  · rename_i hb
    cases op <;> simp only at hx <;> first | (cases hx; done) | skip
    all_goals
      cases hx
      exact ⟨_, by simp [binOp, Op.shift, hb], .int _ _⟩

theorem binStr_rel {op : BinOp} {x y : ByteArray} {e : EV} (hx : binStr op (ofBytes x) (ofBytes y) = some e) (t : TypeId) (w : World) :
    ∃ v, (binOp op t (.string x) (.string y)).run P w = .ok v w ∧ VRel ρ e v := by
  have heq : (x.toList == y.toList) = strEq (ofBytes x) (ofBytes y) := by
    rw [strEq_eq, toList_data, toList_data]
    by_cases hxy : x.data.toList = y.data.toList
    · simp [hxy, ofBytes]
    · have h1 : ofBytes x ≠ ofBytes y := fun e => hxy (ofBytes_inj e)
      rw [decide_eq_false h1]
      simpa using hxy
  have hlt : Op.bytesLess x.toList y.toList = strLess (ofBytes x) (ofBytes y) := by rw [toList_data, toList_data, bytesLess_eq]; rfl
  cases op <;> simp only [binStr] at hx <;> first | (cases hx; done) | skip
  case add =>
    cases hb : Nat.ble ((ofBytes x).length + (ofBytes y).length) 1099511627776 with
    | false => rw [hb] at hx; cases hx
    | true =>
    rw [hb] at hx
    have hsz := Nat.le_of_ble_eq_true hb
    have l1 : (ofBytes x).length = x.size := by simp [ofBytes]
    have l2 : (ofBytes y).length = y.size := by simp [ofBytes]
    cases hx
    refine ⟨.string (x ++ y), ?_, .str _ _ (by simp [ofBytes])⟩
    have : ¬ ((x.size + y.size : Nat) : Int) > IntKind.i64.max := by
      have : IntKind.i64.max = 9223372036854775807 := by decide
      rw [this]; omega
    simp only [binOp, Op.stringOp]
    rw [if_neg this]
    rfl
  all_goals
    cases hx
    refine ⟨_, by simp only [binOp, Op.stringOp, heq, hlt]; rfl, ?_⟩
    exact .bool _

end Go.Eng

namespace Go.Eng
open Go

variable {P : Program} {tb : Tab} {ρ : Ren} {h : EH} {w : World} {nm : Nat}

theorem string_beq (x y : ByteArray) : (x.toList == y.toList) = strEq (ofBytes x) (ofBytes y) := by
  rw [strEq_eq, toList_data, toList_data]
  by_cases hxy : x.data.toList = y.data.toList
  · simp [hxy, ofBytes]
  · have h1 : ofBytes x ≠ ofBytes y := fun e => hxy (ofBytes_inj e)
    rw [decide_eq_false h1]
    simpa using hxy

theorem int_beq (a b : Int) : (a == b) = decide (a = b) := by by_cases h : a = b <;> simp [h]

theorem eqOne_rel (ht : TabOk P tb) {t : TypeId} {d : TypeDesc} {x y : EV} {x' y' : Value} {b : Bool} (hd : P.underlying t = some d) (hx : VRel ρ x x') (hy : VRel ρ y y') (he : eqOne tb d x y = some b) (n : Nat) (w : World) :
    (Op.equalIn (n + 1) t x' y').run P w = .ok b w := by
  have hu := run_underlying hd w
  cases hx <;> cases hy <;> simp only [eqOne] at he <;> first | (cases he; done) | skip
  all_goals (cases d <;> simp only at he <;> first | (cases he; done) | skip)
  all_goals first
    | (cases he; unfold Op.equalIn; rw [Sem.run_bind, hu]; rfl)
    | skip
  case int.int.int =>
    split at he
    · rename_i hk; subst hk; cases he
      rw [run_equalIn_int w n t _ _ _ _ hd, int_beq]
    · cases he
  case str.str.string =>
    rename_i hs1 _ _ hs2
    cases he
    subst hs1 hs2
    rw [run_equalIn_string w n t _ _ hd, string_beq]
  case ptr.ptr.pointer =>
    rename_i L h1 m p M h2 e
    split at he
    · rename_i k hk
      split at he
      · rename_i hmk
        obtain ⟨rfl, hk0⟩ := hmk
        cases he
        rw [h1] at h2; cases h2
        unfold Op.equalIn
        rw [Sem.run_bind, hu, Result.andThen_ok]
        simp only [Sem.run_bind, Result.andThen_ok, ht.run_size hk, Sem.run_ite]
        rw [if_pos (by simpa using hk0)]
        simp only [sameAddr, beq_self_eq_true, if_true, Sem.run_bind, Sem.run_pure, Result.andThen_ok]
        congr 1
        rw [Bool.eq_iff_iff]
        simp
      · cases he
    · cases he

end Go.Eng

namespace Go.Eng
open Go

variable {P : Program} {tb : Tab} {ρ : Ren} {h : EH} {w : World} {nm : Nat}

theorem VRels.getA {es : List EV} {vs : Array Value} {i : Nat} {e : EV} (h : VRels ρ es vs.toList) (hi : es[i]? = some e) : ∃ v, vs[i]? = some v ∧ VRel ρ e v := by
  obtain ⟨v, h1, h2⟩ := h.get hi
  exact ⟨v, by simpa using h1, h2⟩

theorem part_rel (ht : TabOk P tb) {t : TypeId} {cs : List EV} {cs' : Array Value} {off : Nat} {e : EV} (hc : VRels ρ cs cs'.toList) (hx : partE tb t cs off = some e) (w : World) :
    ∃ v, (part t cs' off).run P w = .ok v w ∧ VRel ρ e v := by
  unfold partE at hx
  split at hx
  · rename_i d hd
    unfold part
    simp only [Sem.run_bind, ht.run_isAgg hd, Result.andThen_ok, Sem.run_ite]
    cases hag : isAggD d with
    | true =>
      rw [hag] at hx
      simp only [cond_true] at hx
      split at hx
      · rename_i k hk
        cases hb : Nat.ble (Nat.add off k) cs.length with
        | false => rw [hb] at hx; cases hx
        | true =>
          rw [hb] at hx; cases hx
          refine ⟨.agg (cs'.extract off (off + k)), by simp [ht.run_size hk], .agg _ _ ?_⟩
          have := (hc.drop off).take k
          simpa [Array.toList_extract, List.extract_eq_take_drop] using this
      · cases hx
    | false =>
      rw [hag] at hx
      simp only [cond_false] at hx
      obtain ⟨v, h1, h2⟩ := hc.getA hx
      exact ⟨v, by simp [h1], h2⟩
  · cases hx

theorem eqFields_rel (ht : TabOk P tb) {xs ys : List EV} {xs' ys' : Array Value} (hx : VRels ρ xs xs'.toList) (hy : VRels ρ ys ys'.toList) (n : Nat) (w : World) :
    ∀ {fs : List Field} {b : Bool}, eqFields tb xs ys fs = some b → (Op.eqFields (n + 1) xs' ys' fs).run P w = .ok b w
  | [], b, he => by cases he; rfl
  | f :: fs, b, he => by
    unfold eqFields at he
    split at he
    · cases he
    · rename_i hn
      split at he
      · rename_i d x y hd hxi hyi
        split at he
        all_goals first | (cases he; done) | skip
        all_goals
          rename_i hq
          split at hq
          · cases hq
          · rename_i hni
            obtain ⟨x', h1, h2⟩ := hx.getA hxi
            obtain ⟨y', h3, h4⟩ := hy.getA hyi
            have hag : isAggD d = false := by
              cases d <;> first | rfl | skip
              all_goals exfalso; cases x <;> cases y <;> cases hq
            have hp1 : ∀ (c : Array Value) (v : Value), c[f.offset]? = some v → (part f.type c f.offset).run P w = .ok v w := by
              intro c v hv
              unfold part
              simp [ht.run_isAgg hd, hag, hv]
            have he' := eqOne_rel ht (ht.und _ _ hd) h2 h4 hq n w
            simp only [Op.eqFields, if_pos hn, Sem.run_bind, hp1 _ _ h1, hp1 _ _ h3, Result.andThen_ok, he']
            first
              | (simp only [Bool.not_true, Bool.false_eq_true, if_false]; exact eqFields_rel ht hx hy n w he)
              | (cases he; rfl)
      · cases he

theorem eqE_rel (ht : TabOk P tb) {t : TypeId} {x y : EV} {x' y' : Value} {b : Bool} (hx : VRel ρ x x') (hy : VRel ρ y y') (he : eqE tb t x y = some b) (n : Nat) (w : World) :
    (Op.equalIn (n + 2) t x' y').run P w = .ok b w ∧ ((∃ c, x' = .agg c) → P.eqGuardType P.depth t = false) := by
  unfold eqE at he
  split at he
  · rename_i d hd
    split at he
    · rename_i fs xs ys
      cases hq : tb.eqst t with
      | false => rw [hq] at he; cases he
      | true =>
        rw [hq] at he
        simp only [cond_true] at he
        obtain ⟨g1, g2⟩ := ht.eqst t hq
        have hu := ht.und _ _ hd
        cases hx with | agg _ xs' h1 => ?_
        cases hy with | agg _ ys' h2 => ?_
        have hf : P.fieldsOf t = fs := by simp [Program.fieldsOf, hu]
        refine ⟨?_, fun _ => g2⟩
        rw [run_equalIn_struct w (n + 1) t xs' ys' (by rw [hf]; exact hu) g1, hf]
        exact eqFields_rel ht h1 h2 n w he
    · rename_i hnot
      refine ⟨eqOne_rel ht (ht.und _ _ hd) hx hy he (n + 1) w, fun ⟨c, hc⟩ => ?_⟩
      subst hc
      cases hx
      cases y <;> cases he
  · cases he

theorem binE_rel (ht : TabOk P tb) {op : BinOp} {t : TypeId} {x y : EV} {x' y' : Value} {e : EV} {ox oy : Operand} (hx : VRel ρ x x') (hy : VRel ρ y y') (hg : guardE ox oy x y = true) (he : binE tb op t x y = some e) (w : World) :
    ∃ v, (do eqGuard op t ox oy x' y'; binOp op t x' y' : Sem Value).run P w = .ok v w ∧ VRel ρ e v := by
  have noguard : (∀ c d, ¬ (x' = .agg c ∧ y' = .agg d)) → ¬ (x' = .nilIface ∧ y' = .nilIface) → (eqGuard op t ox oy x' y').run P w = .ok () w := by
    intro h1 h2
    unfold eqGuard
    split
    all_goals first
      | rfl
      | skip
    all_goals
      simp only [Bool.not_true, Bool.false_eq_true, if_false]
      split
      · exact absurd ⟨rfl, rfl⟩ h2
      · exact absurd ⟨rfl, rfl⟩ (h1 _ _)
      · rfl
  unfold binE at he
  split at he
  · rename_i k a k' b
    cases hx; cases hy
    have hng : (eqGuard op t ox oy (.int k a) (.int k' b)).run P w = .ok () w := noguard (fun c d ⟨e, _⟩ => by cases e) (fun ⟨e, _⟩ => by cases e)
    simp only [Sem.run_bind, hng, Result.andThen_ok]
    split at he
    · exact shift_rel he t w
    · exact shift_rel he t w
    · rename_i h1 h2
      split at he
      · rename_i hk; subst hk
        exact binInt_rel he ⟨h1, h2⟩ t w
      · cases he
  · rename_i a b
    cases hx with | str s _ hs => ?_
    cases hy with | str s' _ hs' => ?_
    subst hs hs'
    have hng : (eqGuard op t ox oy (.string s) (.string s')).run P w = .ok () w := noguard (fun c d ⟨e, _⟩ => by cases e) (fun ⟨e, _⟩ => by cases e)
    simp only [Sem.run_bind, hng, Result.andThen_ok]
    exact binStr_rel he t w
  · rename_i n1 n2
    have key : ∀ b, eqE tb t x y = some b → (eqGuard op t ox oy x' y').run P w = .ok () w ∧ (Op.equal t x' y').run P w = .ok b w := by
      intro b hb
      obtain ⟨h1, h2⟩ := eqE_rel ht hx hy hb 9998 w
      refine ⟨?_, h1⟩
      by_cases hagg : ∃ c d, x' = .agg c ∧ y' = .agg d
      · obtain ⟨c, d, rfl, rfl⟩ := hagg
        exact run_eqGuard_agg w op t ox oy c d (h2 ⟨c, rfl⟩)
      · by_cases hni : x' = .nilIface ∧ y' = .nilIface
        · obtain ⟨rfl, rfl⟩ := hni
          cases hx; cases hy
          unfold eqGuard
          split
          all_goals first
            | rfl
            | skip
          all_goals
            simp only [Bool.not_true, Bool.false_eq_true, if_false]
            rw [if_pos]
            · rfl
            · revert hg; clear noguard; cases ox <;> cases oy <;> simp [guardE]
        · exact noguard (fun c d e => hagg ⟨c, d, e⟩) hni
    have hbin : (op = .eql → (binOp op t x' y').run P w = ((Op.equal t x' y').run P w).andThen fun b w' => .ok (.bool b) w') ∧ (op = .neq → (binOp op t x' y').run P w = ((Op.equal t x' y').run P w).andThen fun b w' => .ok (.bool (!b)) w') := by
      constructor
      · rintro rfl
        cases hx <;> cases hy <;> first
          | exact absurd rfl (n1 _ _ _ _ rfl)
          | exact absurd rfl (n2 _ _ rfl)
          | (simp only [binOp, Sem.run_bind, Sem.run_pure]; done)
      · rintro rfl
        cases hx <;> cases hy <;> first
          | exact absurd rfl (n1 _ _ _ _ rfl)
          | exact absurd rfl (n2 _ _ rfl)
          | (simp only [binOp, Sem.run_bind, Sem.run_pure]; done)
    split at he
    · cases hq : eqE tb t x y with
      | none => rw [hq] at he; cases he
      | some b =>
        rw [hq] at he; cases he
        obtain ⟨g1, g2⟩ := key b hq
        refine ⟨.bool b, ?_, .bool b⟩
        simp only [Sem.run_bind, g1, Result.andThen_ok]
        rw [hbin.1 rfl, g2]; rfl
    · cases hq : eqE tb t x y with
      | none => rw [hq] at he; cases he
      | some b =>
        rw [hq] at he; cases he
        obtain ⟨g1, g2⟩ := key b hq
        refine ⟨.bool (!b), ?_, .bool (!b)⟩
        simp only [Sem.run_bind, g1, Result.andThen_ok]
        rw [hbin.2 rfl, g2]; rfl
    · cases he

theorem unE_rel {op : UnOp} {x e : EV} {x' : Value} (hx : VRel ρ x x') (he : unE op x = some e) (w : World) : ∃ v, (Op.unary op x').run P w = .ok v w ∧ VRel ρ e v := by
  unfold unE at he
  split at he
  · cases he; cases hx; exact ⟨_, rfl, .bool _⟩
  · cases he; cases hx; exact ⟨_, by simp [Op.unary, Op.intArith], .int _ _⟩
  · cases he

end Go.Eng

/- A part of the proof of CarveSides: a verified interpreter of the model's own code, its soundness, and contracts of the library's functions. Conditions: none. -/
import Derived.Test.YtficpbnmmchpeaaGreatDoorEngD
namespace Go.Eng
open Go
variable [Syms]

variable {P : Program} {tb : Tab} {ρ : Ren} {h : EH} {w : World} {nm : Nat} {f : Fr} {a : Act} {o : Oper} {r : OR}

/-- What an operation comes to, of any meaning. -/
def GoodN (P : Program) (ρ : Ren) (h : EH) (w : World) (nm : Nat) (s : Sem Next) : OR → Prop
  | .val e h' => ∃ ρ' v w', s.run P w = .ok (.value v) w' ∧ VRel ρ' e v ∧ Rel P ρ' h' w' ∧ Extd (· = nm) ρ h w ρ' h' w'
  | .skip h' => ∃ w', s.run P w = .ok .skip w' ∧ Rel P ρ h' w' ∧ Extd (· = nm) ρ h w ρ h' w'
  | .enter g args => ∃ args', s.run P w = (callFunc g args').run P w ∧ VRels ρ args args'.toList
  | .round l args => ∃ L args', ρ l = some L ∧ s.run P w = (Instr.yield L.b args').run P w ∧ VRels ρ args args'.toList

theorem goodN_good (hz : noisy o = true) (h0 : GoodN P ρ h w nm (execOp a.eval o) r) : Good P ρ h w nm o a r := by
  cases r <;> first | exact .inr ⟨hz, h0⟩ | exact h0

theorem goodN_run {s s' : Sem Next} (h0 : GoodN P ρ h w nm s r) (he : s'.run P w = s.run P w) : GoodN P ρ h w nm s' r := by
  cases r <;> (unfold GoodN at *; rw [he]; exact h0)

theorem goodN_v {e : EV} {s : Sem Value} (hr : Rel P ρ h w) (hs : ∃ v, s.run P w = .ok v w ∧ VRel ρ e v) : GoodN P ρ h w nm (do pure (.value (← s))) (.val e h) := by
  obtain ⟨v, h1, h2⟩ := hs
  exact ⟨ρ, v, w, by rw [Sem.run_bind, h1]; rfl, h2, hr, .refl _ _ _ _⟩

theorem goodN_new {e : EV} {h' : EH} {s : Sem Value} (hs : ∃ ρ' v w', s.run P w = .ok v w' ∧ VRel ρ' e v ∧ Rel P ρ' h' w' ∧ Extd (· = nm) ρ h w ρ' h' w') : GoodN P ρ h w nm (do pure (.value (← s))) (.val e h') := by
  obtain ⟨ρ', v, w', h1, h2, h3, h4⟩ := hs
  exact ⟨ρ', v, w', by rw [Sem.run_bind, h1]; rfl, h2, h3, h4⟩

omit [Syms] in
theorem list_get0 {α : Type} {x : Array α} {a : α} {l : List α} (h : x.toList = a :: l) : x[0]? = some a := by
  rw [← Array.getElem?_toList, h]; rfl
omit [Syms] in
theorem list_get1 {α : Type} {x : Array α} {a b : α} {l : List α} (h : x.toList = a :: b :: l) : x[1]? = some b := by
  rw [← Array.getElem?_toList, h]; rfl

theorem len_rel (ht : TabOk P tb) (hr : Rel P ρ h w) {t : TypeId} {x e : EV} {x' : Value} {ts : Array TypeId} {args : Array Value} {ty : TypeId} (h0 : ts[0]? = some t) (h1 : args[0]? = some x') (hx : VRel ρ x x') (he : lenE tb h t x = some e) :
    ∃ v, (Builtin.len_ ts ty args).run P w = .ok v w ∧ VRel ρ e v := by
  unfold lenE at he
  split at he
  · rename_i d hd
    unfold Builtin.len_
    simp only [h0, h1, Sem.run_bind, ht.run_und hd, Result.andThen_ok]
    split at he
    · cases he; cases hx with | str s _ hs => ?_
      subst hs
      exact ⟨goInt s.size, rfl, by rw [ofBytes_length]; exact .int _ _⟩
    · split at he
      · rename_i n hn
        cases he
        obtain ⟨s, hs, rfl⟩ := ht.lens _ _ hn
        cases hx with | sym _ _ hv _ => ?_
        rw [hs] at hv
        subst hv
        exact ⟨goInt s.size, rfl, .int _ _⟩
      · cases he
    · cases he; exact ⟨goInt _, by cases hx <;> rfl, .int _ _⟩
    · cases he; cases hx; exact ⟨goInt _, rfl, .int _ _⟩
    · cases he; cases hx; exact ⟨goInt _, rfl, .int _ _⟩
    · cases he; cases hx; exact ⟨goInt _, rfl, .int _ _⟩
    · split at he
      · rename_i es clock hg
        cases he; cases hx with | map _ L hL => ?_
        obtain ⟨xs, hxs, hmr⟩ := hr.map_at hg hL
        refine ⟨goInt xs.size, ?_, ?_⟩
        · simp only [Sem.run_bind, run_getMap hxs, Result.andThen_ok]; rfl
        · rw [hmr.length]; exact .int _ _
      · cases he
    · cases he
  · cases he

theorem cap_rel (ht : TabOk P tb) {t : TypeId} {x e : EV} {x' : Value} {ts : Array TypeId} {args : Array Value} {ty : TypeId} {d : TypeDesc} (hd : tb.und t = some d) (h0 : ts[0]? = some t) (h1 : args[0]? = some x') (hx : VRel ρ x x')
    (he : (∃ el n off len c es, d = .slice el ∧ x = .slice n off len (some c) es ∧ e = .int .i64 c) ∨ (∃ el, d = .slice el ∧ x = .nilSlice ∧ e = .int .i64 0)) (w : World) :
    ∃ v, (Builtin.cap_ ts ty args).run P w = .ok v w ∧ VRel ρ e v := by
  unfold Builtin.cap_
  simp only [h0, h1, Sem.run_bind, ht.run_und hd, Result.andThen_ok]
  rcases he with ⟨el, n, off, len, c, es, rfl, rfl, rfl⟩ | ⟨el, rfl, rfl, rfl⟩
  · cases hx with | slice _ _ _ _ _ L o' c' hL hlc hcc hoo => ?_
    have := hcc.1 _ rfl
    subst this
    exact ⟨goInt c', rfl, .int _ _⟩
  · cases hx
    exact ⟨goInt 0, rfl, .int _ _⟩

theorem min_rel {args : List EV} {args' : Array Value} {e : EV} {ts : Array TypeId} {ty : TypeId} (ha : VRels ρ args args'.toList) (he : minE args = some e) (w : World) : ∃ v, (Builtin.min_ ts ty args').run P w = .ok v w ∧ VRel ρ e v := by
  unfold minE at he
  split at he
  · cases he
    unfold Builtin.min_
    generalize args'.toList = l at ha
    cases ha with | cons _ _ _ _ h1 h2 => ?_
    cases h2 with | cons _ _ _ _ h2 h3 => ?_
    cases h3; cases h1; cases h2
    exact ⟨_, by simp only [List.foldlM_cons, List.foldlM_nil, Builtin.min2, Sem.run_bind, Sem.run_pure, Result.andThen_ok], .int _ _⟩
  · cases he

theorem max_rel {args : List EV} {args' : Array Value} {e : EV} {ts : Array TypeId} {ty : TypeId} (ha : VRels ρ args args'.toList) (he : maxE args = some e) (w : World) : ∃ v, (Builtin.max_ ts ty args').run P w = .ok v w ∧ VRel ρ e v := by
  unfold maxE at he
  split at he
  · cases he
    unfold Builtin.max_
    generalize args'.toList = l at ha
    cases ha with | cons _ _ _ _ h1 h2 => ?_
    cases h2 with | cons _ _ _ _ h2 h3 => ?_
    cases h3; cases h1; cases h2
    exact ⟨_, by simp only [List.foldlM_cons, List.foldlM_nil, Builtin.max2, Sem.run_bind, Sem.run_pure, Result.andThen_ok], .int _ _⟩
  · cases he
    unfold Builtin.max_
    generalize args'.toList = l at ha
    cases ha with | cons _ _ _ _ h1 h2 => ?_
    cases h2 with | cons _ _ _ _ h2 h3 => ?_
    cases h3
    cases h1 with | str s1 _ hs1 => ?_
    cases h2 with | str s2 _ hs2 => ?_
    subst hs1 hs2
    have hlt : Op.bytesLess s1.toList s2.toList = strLess (ofBytes s1) (ofBytes s2) := by rw [toList_data, toList_data, bytesLess_eq]; rfl
    refine ⟨.string (if (!strLess (ofBytes s1) (ofBytes s2)) = true then s1 else s2), ?_, .str _ _ ?_⟩
    · simp only [List.foldlM_cons, List.foldlM_nil, Builtin.max2, Op.stringOp, asBool, Sem.run_bind, Sem.run_pure, Result.andThen_ok, hlt]
    · cases strLess (ofBytes s1) (ofBytes s2) <;> rfl
  · cases he

/-! ### Sources of cells -/

theorem RowAt.ones {L : Loc} {t : T EV} {e : TypeId} {c : Array Value} {fr : Nat × Nat} (hr : RowAt P ρ w L t e c fr) {off k : Nat} {es : List EV} (hx : readFrom t off k = some es) :
    ∀ v ∈ (c.extract (L.sh + off) (L.sh + off + k)).toList, v.oneCell' = true := by
  intro v hv
  obtain ⟨hl, hg⟩ := readFrom_get hx
  obtain ⟨i, hi⟩ := List.getElem?_of_mem hv
  rw [Array.getElem?_toList, Array.getElem?_extract] at hi
  split at hi
  · rename_i hlt
    have hik : i < k := by omega
    have h1 := hg i hik
    rw [List.getElem?_eq_getElem (by omega)] at h1
    obtain ⟨v', hv', _, h3⟩ := hr.cell _ _ h1
    rw [show L.sh + (off + i) = L.sh + off + i by omega, hi] at hv'
    cases hv'
    exact h3
  · cases hi

theorem firstCells_rel (hr : Rel P ρ h w) {x : EV} {x' : Value} {es m k : Nat} {news : List EV} (hx : VRel ρ x x') (he : sourceE h x es = some (news, m)) (hl : news.length = m * es) (hk : k ≤ m) :
    (Builtin.lenOf x').run P w = .ok m w ∧ (∃ c : Array Value, (∀ w2 : World, w2.heap = w.heap → (Builtin.firstCells es k x').run P w2 = .ok c w2) ∧ VRels ρ (news.take (k * es)) c.toList ∧ ∀ v ∈ c.toList, v.oneCell' = true) := by
  unfold sourceE at he
  split at he
  · cases he; cases hx
    refine ⟨rfl, #[], fun w2 _ => rfl, ?_, fun v hv => by cases hv⟩
    simp; exact .nil
  · rename_i n off len cap es'
    cases hx with | slice _ _ _ _ _ L o' c' hL hlc hcc hoo => ?_
    split at he
    · rename_i h0
      cases he
      have : k = 0 := by omega
      subst this
      subst h0
      refine ⟨rfl, #[], fun w2 _ => ?_, ?_, fun v hv => by cases hv⟩
      · simp only [Builtin.firstCells, Nat.zero_mul]; rfl
      · simp; exact .nil
    · rename_i h0
      split at he
      · rename_i hes
        subst hes
        obtain ⟨l, hl0, he'⟩ := map_some he
        cases he'
        obtain ⟨t0, e0, vr, hg, hx'⟩ := EH.read_row hl0
        obtain ⟨c, fr, hrow⟩ := hr.row hg hL
        have ho' : o' = L.sh + off := by
          rcases hoo with h1 | ⟨h1, _⟩
          · omega
          · exact h1
        subst ho'
        obtain ⟨hb, hv⟩ := hrow.read hx'
        have hkm : k * es' ≤ m * es' := Nat.mul_le_mul_right _ hk
        refine ⟨rfl, ?_⟩
        rcases Nat.eq_zero_or_pos (k * es') with hz | hpos
        · refine ⟨#[], fun w2 _ => ?_, ?_, fun v hv => by cases hv⟩
          · simp only [Builtin.firstCells, hz]; rfl
          · rw [hz]; simp; exact .nil
        · have hbd := hb (by omega)
          refine ⟨c.extract (L.sh + off) (L.sh + off + k * es'), fun w2 hw => ?_, ?_, ?_⟩
          · simp only [Builtin.firstCells]
            exact run_loadCells (by rw [hw]; exact hrow.heap) (by omega)
          · have := hv.take (k * es')
            have e1 : ((c.extract (L.sh + off) (L.sh + off + m * es')).toList).take (k * es') = (c.extract (L.sh + off) (L.sh + off + k * es')).toList := by
              simp only [Array.toList_extract, List.extract_eq_take_drop, List.take_take]
              congr 1
              omega
            rw [← e1]
            exact this
          · intro v hv'
            refine hrow.ones hx' v ?_
            have e1 : ((c.extract (L.sh + off) (L.sh + off + m * es')).toList).take (k * es') = (c.extract (L.sh + off) (L.sh + off + k * es')).toList := by
              simp only [Array.toList_extract, List.extract_eq_take_drop, List.take_take]
              congr 1
              omega
            rw [← e1] at hv'
            exact List.mem_of_mem_take hv'
      · cases he
  · rename_i s
    cases he
    cases hx with | str s' _ hs => ?_
    subst hs
    rw [List.length_map] at hl
    refine ⟨by rw [ofBytes_length]; rfl, (s'.extract 0 k).data.map fun b => .int .u8 b.toNat, fun w2 _ => rfl, ?_, ?_⟩
    · have e1 : k * es = k := by
        rcases Nat.eq_zero_or_pos k with h0 | h0
        · simp [h0]
        · have hpos : 0 < (ofBytes s').length := by omega
          have : es = 1 := Nat.eq_of_mul_eq_mul_left hpos (by omega)
          simp [this]
      rw [e1]
      have e2 : ((ofBytes s').map fun b => EV.int .u8 (Int.ofNat b)).take k = (ofBytes (s'.extract 0 k)).map fun b => EV.int .u8 (Int.ofNat b) := by
        rw [ofBytes_extract, List.drop_zero, List.map_take]
      rw [e2]
      simp only [ofBytes, Array.toList_map, List.map_map]
      generalize (s'.extract 0 k).data.toList = l
      induction l with
      | nil => exact .nil
      | cons b l ih => exact .cons _ _ _ _ (.int _ _) ih
    · intro v hv
      simp only [Array.toList_map, List.mem_map] at hv
      obtain ⟨b, _, rfl⟩ := hv
      rfl
  · cases he

theorem copy_rel (ht : TabOk P tb) (hr : Rel P ρ h w) (S : Nat → Prop) {t el : TypeId} {es : Nat} {d x : EV} {d' x' : Value} {ts : Array TypeId} {args : Array Value} {ty : TypeId} {news : List EV} {m n off len : Nat} {cap : Option Nat} {h' : EH} (hd : tb.und t = some (.slice el)) (hes : tb.size el = some es)
    (h0 : ts[0]? = some t) (h1 : args[0]? = some d') (h2 : args[1]? = some x') (hdr : VRel ρ d d') (hx : VRel ρ x x') (he : sourceE h x es = some (news, m)) (hl : news.length = m * es) (hdd : d = .slice n off len cap es) (hw : h.write n off (news.take (Nat.min m len * es)) = some h') :
    ∃ w', (Builtin.copy_ ts ty args).run P w = .ok (goInt (Nat.min m len)) w' ∧ Rel P ρ h' w' ∧ Extd S ρ h w ρ h' w' := by
  subst hdd
  cases hdr with | slice _ _ _ _ _ L o' c' hL hlc hcc hoo => ?_
  obtain ⟨g1, c, g2, g3, g4⟩ := firstCells_rel (k := Nat.min m len) hr hx he hl (Nat.min_le_left _ _)
  obtain ⟨w', g5, g6, g7⟩ := write_rel hr S hw hL g3
  refine ⟨w', ?_, g6, g7⟩
  unfold Builtin.copy_
  simp only [h0, h1, h2, Sem.run_bind, ht.run_und hd, Result.andThen_ok, g1, ht.run_size hes, g2 w rfl]
  have hst : (storeCells ⟨L.b, o', none⟩ c.toList).run P w = .ok () w' := by
    rcases hoo with h3 | ⟨h3, _⟩
    · have : len = 0 := by omega
      have hz : Nat.min m len * es = 0 := by rw [this]; simp [Nat.min]
      rw [hz] at g3
      simp only [List.take_zero] at g3
      generalize c.toList = l at g3 g5
      cases g3
      exact g5
    · rw [h3]; exact g5
  rw [hst]
  rfl

theorem copy_nil_rel (ht : TabOk P tb) (hr : Rel P ρ h w) {t el : TypeId} {es : Nat} {x : EV} {d' x' : Value} {ts : Array TypeId} {args : Array Value} {ty : TypeId} {news : List EV} {m : Nat} (hd : tb.und t = some (.slice el)) (hes : tb.size el = some es)
    (h0 : ts[0]? = some t) (h1 : args[0]? = some d') (h2 : args[1]? = some x') (hdr : VRel ρ .nilSlice d') (hx : VRel ρ x x') (he : sourceE h x es = some (news, m)) (hl : news.length = m * es) :
    (Builtin.copy_ ts ty args).run P w = .ok (goInt 0) w := by
  cases hdr
  obtain ⟨g1, c, g2, g3, g4⟩ := firstCells_rel (k := Nat.min m 0) hr hx he hl (Nat.min_le_left _ _)
  unfold Builtin.copy_
  simp only [h0, h1, h2, Sem.run_bind, ht.run_und hd, Result.andThen_ok, g1, ht.run_size hes, g2 w rfl, Sem.run_pure]
  rw [show Nat.min m 0 = 0 from Nat.min_zero m]
  rfl

end Go.Eng

namespace Go.Eng
open Go
variable [Syms]

variable {P : Program} {tb : Tab} {ρ : Ren} {h : EH} {w : World} {nm : Nat} {f : Fr} {a : Act} {o : Oper} {r : OR}

/-- What append does behind the count of what is appended. -/
def appTail (elem : TypeId) (size : Nat) (zeros : Bool) (base : Option Addr) (sLen sCap : Nat) (s x : Value) (n : Nat) (appended : Sem (Array Value)) : Sem Value := do
  let need := sLen + n
  if need ≤ sCap then
    let new ← appended
    if let some a := base then storeCells (a.add (sLen * size)) new.toList
    pure (.slice base need sCap)
  else
    if (need : Int) > IntKind.i64.max ∧ (zeros ∨ (← typeInfo elem).bytes = 0) then runtimePanic (.error "growslice: len out of range")
    if Builtin.nextslicecap need sCap * (← typeInfo elem).bytes > 2 ^ 48 then (if zeros then runtimePanic (.error "growslice: len out of range") else do
      if !(← Builtin.mayShare size sLen n base x) then mark .noRoom
      unsupported (.resourceLimit "append: a slice or a string whose bytes no memory bears"))
    let newCap ← choose (.appendCap need sCap elem)
    askRoom (newCap * (← typeInfo elem).bytes)
    let old ← Builtin.firstCells size sLen s
    let new ← appended
    let rest := Builtin.zeroCells (← zeroValue elem).cells (newCap - need)
    pure (.slice (some (← newRow elem (old ++ new ++ rest))) need newCap)

omit [Syms] in
theorem growBy_le : ∀ (rounds newLen c : Nat), c ≤ newLen + newLen → Builtin.growBy newLen rounds c ≤ newLen + newLen + 192
  | 0, newLen, c, h => by simp only [Builtin.growBy]; omega
  | r + 1, newLen, c, h => by
    unfold Builtin.growBy
    split
    · omega
    · rename_i hlt
      by_cases h2 : c + (c + 768) / 4 ≤ newLen + newLen
      · exact growBy_le r newLen _ h2
      · have : ∀ r, Builtin.growBy newLen r (c + (c + 768) / 4) = c + (c + 768) / 4 := by
          intro r
          cases r with
          | zero => rfl
          | succ r => unfold Builtin.growBy; rw [if_pos (by omega)]
        rw [this]; omega

omit [Syms] in
theorem nextslicecap_le (newLen oldCap : Nat) (h : oldCap < newLen) : Builtin.nextslicecap newLen oldCap ≤ newLen + newLen + 192 := by
  unfold Builtin.nextslicecap
  split
  · omega
  · split
    · omega
    · exact growBy_le 4 newLen oldCap (by omega)

omit [Syms] in
theorem cut_le {need old : Nat} {e : TypeId} {t : Nat} (h : need ≤ 4611686018427387904) : (Question.appendCap need old e).cut t ≤ 9223372036854775807 := by
  have hlt := Nat.mod_lt t (show 0 < 2 ^ 63 - need by omega)
  simp only [Question.cut]
  omega

omit [Syms] in
theorem zeroCells_size (z : Array Value) (n : Nat) : (Builtin.zeroCells z n).size = n * z.size := by simp [Builtin.zeroCells]

theorem new_row2 {l : List EV} {pre rest : Array Value} {e : TypeId} {w' : World} (hr : Rel P ρ h w) (hn : ρ nm = none) (hlt : nm < h.next) (hv : VRels ρ l pre.toList) (h1 : ∀ v ∈ pre.toList, v.oneCell' = true)
    (hheap : w'.heap = w.heap.push (.cells (pre ++ rest) e)) (hos : w'.os = w.os) (htp : w'.tape = w.tape) (hou : w'.output = w.output) :
    ∃ ρ', ρ' nm = some ⟨w.heap.size, 0, (pre ++ rest).size⟩ ∧ Rel P ρ' (h.set nm (.cells (rowOf l) e false)) w' ∧ Extd (· = nm) ρ h w ρ' (h.set nm (.cells (rowOf l) e false)) w' := by
  have hcl : ∀ k ev, (rowOf l).get k = some ev → ∃ v, (pre ++ rest)[0 + k]? = some v ∧ VRel (ρ.put nm ⟨w.heap.size, 0, (pre ++ rest).size⟩) ev v ∧ v.oneCell' = true := by
    intro k ev hk
    obtain ⟨v, h2, h3⟩ := hv.getA (rowOf_get hk)
    have hkl : k < pre.size := (Array.getElem?_eq_some_iff.1 h2).1
    refine ⟨v, ?_, h3.mono (Ren.le_put hn), h1 v (List.mem_of_getElem? (by simpa using h2))⟩
    rw [Nat.zero_add, Array.getElem?_append_left hkl]; exact h2
  obtain ⟨r, x⟩ := hr.new (o := .cells (rowOf l) e false) (sz := (pre ++ rest).size) hn hlt hheap hos htp hou ⟨pre ++ rest, (0, 0), rfl, rfl, (fun h => by cases h), .inl rfl, hcl⟩
  exact ⟨_, Ren.put_same _ _ _, r, x⟩

theorem appTail_rel (ht : TabOk P tb) (hr : Rel P ρ h w) (hn : ρ nm = none) (hlt : nm < h.next) {e : TypeId} {i : TypeInfo} {zeros : Bool} {s v : EV} {base : Option Addr} {sLen sCap : Nat} {x : Value} {n : Nat} {app : Sem (Array Value)} {news : List EV} {c : Array Value} {h' : EH}
    (hi : tb.inf e = some i) (hb : i.bytes ≤ 1024) (hs0 : 0 < i.size) (hz : zeroOk tb e i.size = true) (hs : VRel ρ s (.slice base sLen sCap))
    (happ : ∀ w2 : World, w2.heap = w.heap → app.run P w2 = .ok c w2) (hc : VRels ρ news c.toList) (h1 : ∀ v ∈ c.toList, v.oneCell' = true) (hl : news.length = n * i.size)
    (he : appendE tb h nm e i.size s news n = some (v, h')) :
    ∃ ρ' v' w', (appTail e i.size zeros base sLen sCap (.slice base sLen sCap) x n app).run P w = .ok v' w' ∧ VRel ρ' v v' ∧ Rel P ρ' h' w' ∧ Extd (· = nm) ρ h w ρ' h' w' := by
  -- the place where there is room
  have room : sLen + n ≤ sCap → (appTail e i.size zeros base sLen sCap (.slice base sLen sCap) x n app).run P w =
      ((match base with
        | some a => storeCells (a.add (sLen * i.size)) c.toList
        | none => pure ()).run P w).andThen fun _ w' => .ok (.slice base (sLen + n) sCap) w' := by
    intro hroom
    unfold appTail
    simp only [if_pos hroom, Sem.run_bind, happ w rfl, Result.andThen_ok]
    cases base <;> simp
  -- a new row
  have zz : ∃ zv : Value, (∀ w, (zeroValue e).run P w = .ok zv w) ∧ zv.cells.size = i.size := by
    unfold zeroOk at hz
    split at hz
    · rename_i z hzz
      obtain ⟨zv, q1, q2⟩ := zero_rel ht hzz
      refine ⟨zv, q1, ?_⟩
      have := (q2 ρ).cells.length
      have := Nat.eq_of_beq_eq_true hz
      simp at *; omega
    · cases hz
  obtain ⟨zv, hzr, hzs⟩ := zz
  have hinf := ht.run_inf hi
  have grow : ∀ (old : Array Value), sCap < sLen + n → sLen + n ≤ 1073741824 → (∀ w2 : World, w2.heap = w.heap → (Builtin.firstCells i.size sLen (.slice base sLen sCap)).run P w2 = .ok old w2) → old.size = sLen * i.size →
      ∃ newCap w1, (sLen + n ≤ newCap ∧ newCap ≤ 9223372036854775807) ∧ (appTail e i.size zeros base sLen sCap (.slice base sLen sCap) x n app).run P w = .ok (.slice (some ⟨w.heap.size, 0, none⟩) (sLen + n) newCap) w1 ∧
        w1.heap = w.heap.push (.cells (old ++ c ++ Builtin.zeroCells zv.cells (newCap - (sLen + n))) e) ∧ w1.os = w.os ∧ w1.tape = w.tape ∧ w1.output = w.output := by
    intro old hroom hbig hold holds
    have hrun : ∃ cap, (sLen + n ≤ cap ∧ cap ≤ 9223372036854775807) ∧ (choose (.appendCap (sLen + n) sCap e)).run P w = .ok cap { w with drawn := w.drawn + 1 } :=
      ⟨_, ⟨Nat.le_add_right _ _, cut_le (old := sCap) (e := e) (by omega)⟩, by simp [choose, Sem.run, Question.forced]; rfl⟩
    obtain ⟨cap, hcap, hch⟩ := hrun
    refine ⟨cap, { w with drawn := w.drawn + 1, heap := w.heap.push (.cells (old ++ c ++ Builtin.zeroCells zv.cells (cap - (sLen + n))) e) }, hcap, ?_, rfl, rfl, rfl, rfl⟩
    unfold appTail
    have hmax : ¬ ((sLen + n : Nat) : Int) > IntKind.i64.max := by
      have : IntKind.i64.max = 9223372036854775807 := by decide
      rw [this]; omega
    have hnext : ¬ Builtin.nextslicecap (sLen + n) sCap * i.bytes > 2 ^ 48 := by
      have e1 := nextslicecap_le _ _ hroom
      have e2 : Builtin.nextslicecap (sLen + n) sCap * i.bytes ≤ (sLen + n + (sLen + n) + 192) * 1024 := Nat.mul_le_mul e1 hb
      omega
    simp only [if_neg (show ¬ sLen + n ≤ sCap by omega), Sem.run_bind, hinf, Result.andThen_ok, hmax, false_and, if_false, hnext, Sem.run_pure, hch, run_askRoom]
    rw [hold { w with drawn := w.drawn + 1 } rfl]
    simp only [Result.andThen_ok]
    rw [happ { w with drawn := w.drawn + 1 } rfl]
    simp only [Result.andThen_ok, hzr, newRow, run_newObj, Sem.run_bind, Sem.run_pure]
  unfold appendE at he
  split at he
  · cases hs
    split at he
    · rename_i hm0
      cases he
      subst hm0
      refine ⟨ρ, .slice none 0 0, w, ?_, .nilSlice, hr, .refl _ _ _ _⟩
      rw [room (Nat.le_refl _)]; rfl
    · rename_i hm0
      cases hbl : Nat.ble n 1073741824 with
      | false => rw [hbl] at he; cases he
      | true =>
        rw [hbl] at he
        cases he
        have hbl := Nat.le_of_ble_eq_true hbl
        obtain ⟨newCap, w1, g1, g2, g3, g4, g5, g6⟩ := grow #[] (by omega) (by omega) (fun w2 _ => rfl) (by simp)
        have g3' : w1.heap = w.heap.push (.cells (c ++ Builtin.zeroCells zv.cells (newCap - (0 + n))) e) := by rw [g3]; simp
        obtain ⟨ρ', q1, q2, q3⟩ := new_row2 hr hn hlt hc h1 g3' g4 g5 g6
        refine ⟨ρ', _, w1, g2, ?_, q2, q3⟩
        rw [Nat.zero_add] at *
        refine .slice _ _ _ _ _ _ _ _ q1 g1.1 (.wide g1.2) (.inr ⟨rfl, ?_⟩)
        have e1 := hc.length
        simp only [Array.length_toList] at e1
        simp only [Array.size_append, zeroCells_size, hzs, ← e1, hl]
        rw [← Nat.add_mul]
        refine Nat.le_trans (Nat.le_of_eq ?_) (Nat.le_refl _)
        rw [Nat.zero_add]; congr 1; omega
  · rename_i n0 off len cap es'
    cases hs with | slice _ _ _ _ _ L o' c' hL hlc hcc hoo => ?_
    split at he
    · rename_i hb2
      obtain ⟨hes, hbig⟩ := hb2
      subst hes
      split at he
      · rename_i hm0
        cases he
        subst hm0
        refine ⟨ρ, .slice (some ⟨L.b, o', none⟩) sLen sCap, w, ?_, .slice _ _ _ _ _ L o' _ hL hlc hcc hoo, hr, .refl _ _ _ _⟩
        rw [room (by omega)]
        have : c.toList = [] := by
          have := hc.length
          rw [hl] at this
          exact List.eq_nil_of_length_eq_zero (by omega)
        simp only [this, storeCells, Sem.run_pure, Result.andThen_ok, Nat.add_zero]
      · rename_i hm0
        split at he
        · rename_i t0 e0 vr hg
          split at he
          · rename_i old hold
            obtain ⟨cc, fr, p1, p2, p3, p4, p5⟩ := hr.live n0 _ L hg hL
            have p4' : ∀ k, k < cc.size → ¬ (fr.1 ≤ k ∧ k < fr.2) := fun k hk => by rcases p4 with p4 | ⟨p4, _⟩ <;> omega
            have hrow : RowAt P ρ w L t0 e0 cc fr := ⟨p1, p2, p4', p5⟩
            obtain ⟨rb, rv⟩ := hrow.read hold
            have ro := hrow.ones hold
            -- the cells that were
            let oldc := cc.extract (L.sh + off) (L.sh + off + sLen * i.size)
            have hc'ne : sLen ≠ 0 → sCap ≠ 0 := by omega
            have holdrun : ∀ w2 : World, w2.heap = w.heap → (Builtin.firstCells i.size sLen (.slice (some ⟨L.b, o', none⟩) sLen sCap)).run P w2 = .ok oldc w2 := by
              intro w2 hw2
              simp only [Builtin.firstCells]
              rcases Nat.eq_zero_or_pos (sLen * i.size) with hz0 | hpos
              · have : oldc = #[] := by
                  apply Array.ext'
                  simp only [oldc, hz0, Nat.add_zero, Array.toList_extract, List.extract_eq_take_drop]
                  simp
                rw [hz0, this]; rfl
              · have hsl : sLen ≠ 0 := by intro e0; rw [e0, Nat.zero_mul] at hpos; omega
                have ho' : o' = L.sh + off := by
                  rcases hoo with h3 | ⟨h3, _⟩
                  · omega
                  · exact h3
                rw [ho']
                exact run_loadCells (by rw [hw2]; exact p1) (rb hpos)
            have holds : oldc.size = sLen * i.size := by
              rcases Nat.eq_zero_or_pos (sLen * i.size) with hz0 | hpos
              · simp only [oldc, Array.size_extract, hz0]; omega
              · have := rb hpos
                simp only [oldc, Array.size_extract]; omega
            have hboth : VRels ρ (old ++ news) (oldc ++ c).toList := by
              rw [Array.toList_append]; exact rv.append hc
            have hones : ∀ v ∈ (oldc ++ c).toList, v.oneCell' = true := by
              intro v hv
              rw [Array.toList_append, List.mem_append] at hv
              rcases hv with hv | hv
              · exact ro v hv
              · exact h1 v hv
            have e1 := hc.length
            simp only [Array.length_toList] at e1
            -- a new row, whatever becomes of the old name
            have fresh : ∀ {h0 : EH}, Rel P ρ h0 w → nm < h0.next → sCap < sLen + n → ∃ ρ' v' w', (appTail e i.size zeros (some ⟨L.b, o', none⟩) sLen sCap (.slice (some ⟨L.b, o', none⟩) sLen sCap) x n app).run P w = .ok v' w' ∧ VRel ρ' (.slice nm 0 (sLen + n) none i.size) v' ∧
                Rel P ρ' (h0.set nm (.cells (rowOf (old ++ news)) e false)) w' ∧ Extd (· = nm) ρ h0 w ρ' (h0.set nm (.cells (rowOf (old ++ news)) e false)) w' := by
              intro h0 hr0 hlt0 hroom
              obtain ⟨newCap, w1, g1, g2, g3, g4, g5, g6⟩ := grow oldc hroom hbig holdrun holds
              obtain ⟨ρ', q1, q2, q3⟩ := new_row2 hr0 hn hlt0 hboth hones g3 g4 g5 g6
              refine ⟨ρ', _, w1, g2, ?_, q2, q3⟩
              refine .slice _ _ _ _ _ _ _ _ q1 g1.1 (.wide g1.2) (.inr ⟨rfl, ?_⟩)
              simp only [Array.size_append, zeroCells_size, hzs, holds, ← e1, hl]
              rw [← Nat.add_mul, ← Nat.add_mul, Nat.zero_add]
              refine Nat.le_of_eq ?_
              congr 1; omega
            -- the old row, with room
            have hpos : 0 < n * i.size := Nat.mul_pos (Nat.pos_of_ne_zero hm0) hs0
            have inplace : sLen + n ≤ sCap → o' = L.sh + off ∧ ∃ w', (appTail e i.size zeros (some ⟨L.b, o', none⟩) sLen sCap (.slice (some ⟨L.b, o', none⟩) sLen sCap) x n app).run P w = .ok (.slice (some ⟨L.b, o', none⟩) (sLen + n) sCap) w' ∧
                Turned L.b (.cells (setRow cc (L.sh + off + sLen * i.size) c.toList) e0 fr) w w' ∧ L.sh + off + sLen * i.size + n * i.size ≤ cc.size := by
              intro hroom
              have ho' : o' = L.sh + off ∧ o' + sCap * i.size ≤ L.sz := by
                rcases hoo with h3 | h3
                · omega
                · exact h3
              obtain ⟨ho', hbd⟩ := ho'
              have e2 : sLen * i.size + n * i.size ≤ sCap * i.size := by rw [← Nat.add_mul]; exact Nat.mul_le_mul_right _ hroom
              have hlen : c.toList.length = n * i.size := by simp only [Array.length_toList]; omega
              obtain ⟨w', s1, s2⟩ := run_storeCells (P := P) (off := L.sh + off + sLen * i.size) (b := L.b) c.toList 0 cc w p1 p4' (by omega) h1
              refine ⟨ho', w', ?_, s2, by omega⟩
              rw [room hroom]
              simp only [addr_add]
              rw [ho', s1]
              rfl
            split at he
            · rename_i k
              have := hcc.1 k rfl
              subst this
              split at he
              · rename_i hroom
                cases he
                obtain ⟨ho', w', s1, s2, s3⟩ := inplace hroom
                have hcl : ∀ k ev, (writeFrom t0 (off + sLen * i.size) news).get k = some ev → ∃ v, (setRow cc (L.sh + off + sLen * i.size) c.toList)[L.sh + k]? = some v ∧ VRel ρ ev v ∧ v.oneCell' = true := by
                  intro k ev hk
                  have hlen : c.toList.length = n * i.size := by simp only [Array.length_toList]; omega
                  rw [setRow_get _ _ _ _ (by omega)]
                  rcases writeFrom_get hk with ⟨a1, a2, a3⟩ | ⟨a1, a2⟩
                  · rw [if_pos (by omega)]
                    obtain ⟨v, hv1, hv2⟩ := hc.get a3
                    refine ⟨v, by rw [← hv1]; congr 1; omega, hv2, h1 v (List.mem_of_getElem? hv1)⟩
                  · rw [if_neg (by omega)]
                    exact p5 k ev a2
                obtain ⟨r1, r2⟩ := hr.turn (o' := .cells (writeFrom t0 (off + sLen * i.size) news) e0 vr) (· = nm) hg hL s2 ⟨_, fr, rfl, by rw [setRow_size]; exact p2, by rw [setRow_size]; exact p3, by rw [setRow_size]; exact p4, hcl⟩
                exact ⟨ρ, _, w', s1, .slice _ _ _ _ _ L o' _ hL hroom (.told _) hoo, r1, r2⟩
              · rename_i hroom
                cases he
                exact fresh hr hlt (by omega)
            · split at he
              · rename_i hee
                subst hee
                cases he
                by_cases hroom : sLen + n ≤ sCap
                · obtain ⟨ho', w', s1, s2, s3⟩ := inplace hroom
                  have hcl : ∀ k ev, (rowOf (old ++ news)).get k = some ev → ∃ v, (setRow cc (L.sh + off + sLen * i.size) c.toList)[L.sh + off + k]? = some v ∧ VRel (ρ.put nm ⟨L.b, L.sh + off, L.sz⟩) ev v ∧ v.oneCell' = true := by
                    intro k ev hk
                    have hlen : c.toList.length = n * i.size := by simp only [Array.length_toList]; omega
                    obtain ⟨v, h2, h3⟩ := hboth.getA (rowOf_get hk)
                    refine ⟨v, ?_, h3.mono (Ren.le_put hn), hones v (List.mem_of_getElem? (i := k) (by rw [Array.getElem?_toList]; exact h2))⟩
                    rw [setRow_get _ _ _ _ (by omega)]
                    by_cases hk2 : k < sLen * i.size
                    · rw [if_neg (by omega), ← h2, Array.getElem?_append_left (by omega)]
                      simp only [oldc, Array.getElem?_extract]
                      rw [if_pos (by omega)]
                    · rw [Array.getElem?_append_right (by omega), holds] at h2
                      have hk3 := (Array.getElem?_eq_some_iff.1 h2).1
                      rw [if_pos (by omega), ← h2, Array.getElem?_toList]
                      congr 1; omega
                  obtain ⟨r1, r2⟩ := hr.rename (o' := .cells (rowOf (old ++ news)) e0 false) (sh := L.sh + off) hg hL hn hlt s2 ⟨_, fr, rfl, by rw [setRow_size]; exact p2, (fun h => by cases h), by rw [setRow_size]; exact p4, hcl⟩
                  refine ⟨_, _, w', s1, .slice _ _ _ _ _ ⟨L.b, L.sh + off, L.sz⟩ o' _ (Ren.put_same _ _ _) hroom (.wide (hcc.2 rfl)) (.inr ⟨by simpa using ho', ?_⟩), r1, r2⟩
                  rcases hoo with h3 | h3
                  · omega
                  · exact h3.2
                · obtain ⟨d1, d2⟩ := Rel.del (fun _ => False) hr hg hL (.refl p1)
                  obtain ⟨ρ', v', w', s1, s2, s3, s4⟩ := fresh d1 hlt (by omega)
                  exact ⟨ρ', v', w', s1, s2, s3, d2.trans s4 (fun _ h => h.elim) (fun _ h => h)⟩
              · cases he
          · cases he
        · cases he
    · cases he
  · cases he

end Go.Eng

namespace Go.Eng
open Go
variable [Syms]

variable {P : Program} {tb : Tab} {ρ : Ren} {h : EH} {w : World} {nm : Nat} {f : Fr} {a : Act} {o : Oper} {r : OR}

theorem append_slice_run (ht : TabOk P tb) {t u e : TypeId} {d : TypeDesc} {base : Option Addr} {sLen sCap m : Nat} {x : Value} {ts : Array TypeId} {args : Array Value} {ty : TypeId} {k : Nat} (ht0 : ts[0]? = some t) (ht1 : ts[1]? = some u) (h0 : args[0]? = some (.slice base sLen sCap)) (h1 : args[1]? = some x)
    (hd : tb.und t = some (.slice e)) (hu : tb.und u = some d) (hni : ∀ k, d ≠ .int k) (hk : tb.size e = some k) (hl : (Builtin.lenOf x).run P w = .ok m w) :
    (Builtin.append_ ts ty args).run P w = (appTail e k false base sLen sCap (.slice base sLen sCap) x m (Builtin.firstCells k m x)).run P w := by
  unfold Builtin.append_
  simp only [ht0, ht1, h0, h1, Sem.run_bind, ht.run_und hd, Result.andThen_ok, ht.run_size hk, ht.run_und hu, Sem.run_pure]
  have hm : ∀ {α : Type} (A B : α) , (if (match d with | .int _ => true | _ => false) = true then A else B) = B := by
    intro α A B
    cases d <;> first | rfl | exact absurd rfl (hni _)
  have := hm (0 : Nat) 1
  cases d <;> first
    | exact absurd rfl (hni _)
    | (simp only [Bool.false_eq_true, if_false, Sem.run_bind, hl, Result.andThen_ok, Bool.not_false, if_true, appTail]; done)
    | (simp only [Bool.false_eq_true, if_false, Sem.run_bind, hl, Result.andThen_ok, Bool.not_false, if_true, appTail]; rfl)

theorem append_zeros_run (ht : TabOk P tb) {t u e : TypeId} {kd ik : IntKind} {base : Option Addr} {sLen sCap : Nat} {n : Int} {ts : Array TypeId} {args : Array Value} {ty : TypeId} {k : Nat} {i : TypeInfo} (ht0 : ts[0]? = some t) (ht1 : ts[1]? = some u) (h0 : args[0]? = some (.slice base sLen sCap)) (h1 : args[1]? = some (.int ik n))
    (hd : tb.und t = some (.slice e)) (hu : tb.und u = some (.int kd)) (hk : tb.size e = some k) (hi : tb.inf e = some i) (hb : i.bytes ≤ 1024) (hn0 : 0 ≤ n) (hn1 : n ≤ 1073741824) :
    (Builtin.append_ ts ty args).run P w = (appTail e k true base sLen sCap (.slice base sLen sCap) (.int ik n) n.toNat (if n.toNat * k = 0 then pure #[] else do pure (Builtin.zeroCells (← zeroValue e).cells n.toNat))).run P w := by
  unfold Builtin.append_
  have hw := wrap_small hn0 (by omega)
  have hnl : ¬ n < 0 := by omega
  have hnb : ¬ n * (i.bytes : Int) > 2 ^ 48 := by
    have : n * (i.bytes : Int) ≤ 1073741824 * 1024 := Int.mul_le_mul hn1 (by omega) (by omega) (by omega)
    omega
  simp only [ht0, ht1, h0, h1, Sem.run_bind, ht.run_und hd, Result.andThen_ok, ht.run_size hk, ht.run_und hu, Sem.run_pure, if_true, asInt, asIntOf, hw, hnl, if_false, ht.run_inf hi, hnb, Bool.not_true, Bool.false_eq_true, appTail]
  rfl

omit [Syms] in
theorem und_int {d : TypeDesc} : (∃ k, d = .int k) ∨ ∀ k, d ≠ .int k := by
  cases d <;> first | exact .inl ⟨_, rfl⟩ | (refine .inr fun k e => ?_; cases e)

theorem append_slices (s : EV) {v : Value} (hs : VRel ρ s v) {e : TypeId} {es n : Nat} {news : List EV} {x : EV × EH} (he : appendE tb h nm e es s news n = some x) : ∃ base sLen sCap, v = .slice base sLen sCap := by
  unfold appendE at he
  split at he
  · cases hs; exact ⟨_, _, _, rfl⟩
  · cases hs; exact ⟨_, _, _, rfl⟩
  · cases he

theorem append_rel (ht : TabOk P tb) (hr : Rel P ρ h w) (hn : ρ nm = none) (hlt : nm < h.next) {t u : TypeId} {s x : EV} {ts : Array TypeId} {tr : List TypeId} {args : Array Value} {ty : TypeId} {s' x' : Value}
    (hts : ts.toList = t :: u :: tr) (h0 : args[0]? = some s') (h1 : args[1]? = some x') (hs : VRel ρ s s') (hx : VRel ρ x x') {rest : List EV} (he : builtinE tb h nm .append ts.toList (s :: x :: rest) = some r) :
    GoodN P ρ h w nm (do pure (.value (← Builtin.append_ ts ty args))) r := by
  rw [hts] at he
  have ht0 := list_get0 hts
  have ht1 := list_get1 hts
  simp only [builtinE] at he
  split at he
  · rename_i e d hd hu
    split at he
    · rename_i i hi
      have hk : tb.size e = some i.size := by simp [Tab.size, hi]
      cases hc : (Nat.ble i.bytes 1024 && Nat.blt 0 i.size && zeroOk tb e i.size) with
      | false => rw [hc] at he; cases he
      | true =>
        rw [hc] at he
        simp only [cond_true] at he
        simp only [Bool.and_eq_true] at hc
        obtain ⟨⟨c1, c2⟩, c3⟩ := hc
        have c1 := Nat.le_of_ble_eq_true c1
        have c2 : 0 < i.size := Nat.le_of_ble_eq_true c2
        split at he
        · rename_i kd
          split at he
          · rename_i ik n
            cases hx
            split at he
            · rename_i hb
              obtain ⟨hb0, hb1⟩ := hb
              split at he
              · rename_i z hz
                split at he
                · rename_i v h' hap
                  cases he
                  obtain ⟨base, sLen, sCap, rfl⟩ := append_slices s hs hap
                  obtain ⟨zv, q1, q2, q3, q4, q5⟩ := zeroRow_rel (ρ := ρ) ht hz hk
                  have hzz : ∃ c : Array Value, VRels ρ z c.toList ∧ ∀ w2, (if n.toNat * i.size = 0 then pure #[] else do pure (Builtin.zeroCells (← zeroValue e).cells n.toNat) : Sem (Array Value)).run P w2 = .ok c w2 := by
                    by_cases h00 : n.toNat * i.size = 0
                    · exact ⟨#[], q2 h00, fun w2 => by rw [if_pos h00]; rfl⟩
                    · obtain ⟨v0, hv1, hv2⟩ := q1 h00
                      obtain ⟨hs1, hs2⟩ := q3 h00
                      refine ⟨_, hs2, fun w2 => ?_⟩
                      rw [if_neg h00]
                      simp only [Sem.run_bind, hv1, Result.andThen_ok, Sem.run_pure, Builtin.zeroCells, hv2, hs1]
                  obtain ⟨c, hc1, hc2⟩ := hzz
                  have := appTail_rel ht hr hn hlt (zeros := true) (x := .int ik n) (app := (if n.toNat * i.size = 0 then pure #[] else do pure (Builtin.zeroCells (← zeroValue e).cells n.toNat))) hi c1 c2 c3 hs (fun w2 _ => hc2 w2) hc1 (hc1.ones q4) q5 hap
                  refine goodN_new ?_
                  obtain ⟨ρ', v', w', g1, g2⟩ := this
                  exact ⟨ρ', v', w', by rw [append_zeros_run ht ht0 ht1 h0 h1 hd hu hk hi c1 hb0 hb1]; exact g1, g2⟩
                · cases he
              · cases he
            · cases he
          · cases he
        · rename_i hni
          split at he
          · rename_i news m hsrc
            cases hl : Nat.beq news.length (m * i.size) with
            | false => rw [hl] at he; cases he
            | true =>
              rw [hl] at he
              simp only [cond_true] at he
              have hl := Nat.eq_of_beq_eq_true hl
              split at he
              · rename_i v h' hap
                cases he
                obtain ⟨base, sLen, sCap, rfl⟩ := append_slices s hs hap
                obtain ⟨g1, c, g2, g3, g4⟩ := firstCells_rel (k := m) hr hx hsrc hl (Nat.le_refl _)
                rw [← hl, List.take_length] at g3
                have := appTail_rel ht hr hn hlt (zeros := false) (x := x') (app := Builtin.firstCells i.size m x') hi c1 c2 c3 hs g2 g3 g4 hl hap
                refine goodN_new ?_
                obtain ⟨ρ', v', w', q1, q2⟩ := this
                exact ⟨ρ', v', w', by rw [append_slice_run ht ht0 ht1 h0 h1 hd hu hni hk g1]; exact q1, q2⟩
              · cases he
          · cases he
    · cases he
  · cases he

omit [Syms] in
theorem run_loadBytes {b : Nat} {c : Array Value} {e : TypeId} {fr : Nat × Nat} (h : w.heap[b]? = some (.cells c e fr)) : ∀ (ks : List Int) (off : Nat) (acc : ByteArray),
    (∀ i k, ks[i]? = some k → c[off + i]? = some (.int .u8 k)) → ∃ s, (loadBytes ⟨b, off, none⟩ acc ks.length).run P w = .ok s w ∧ ofBytes s = ofBytes acc ++ ks.map fun k => k.toNat % 256
  | [], off, acc, _ => ⟨acc, rfl, by simp⟩
  | k :: ks, off, acc, hc => by
    have h0 : w.cell? ⟨b, off, none⟩ = some (.int .u8 k) := by rw [cell_row h]; exact hc 0 k rfl
    obtain ⟨s, h1, h2⟩ := run_loadBytes h ks (off + 1) (acc.push k.toNat.toUInt8) (fun i k' hi => by
      have := hc (i + 1) k' (by simpa using hi)
      rw [show off + 1 + i = off + (i + 1) by omega]; exact this)
    refine ⟨s, ?_, ?_⟩
    · rw [List.length_cons, loadBytes]
      simp only [Sem.run_bind, run_load, h0, Result.andThen_ok, addr_add]
      exact h1
    · rw [h2, ofBytes_push]
      simp

theorem builtin_rel (ht : TabOk P tb) (hr : Rel P ρ h w) (hn : ρ nm = none) (hlt : nm < h.next) {b : Builtin} {ts : Array TypeId} {ty : TypeId} {cs : Array Bool} {args : List EV} {args' : Array Value} (ha : VRels ρ args args'.toList) (he : builtinE tb h nm b ts.toList args = some r) :
    GoodN P ρ h w nm (builtin b ts ty cs args') r := by
  have hts : ∀ {t : TypeId} {l : List TypeId}, ts.toList = t :: l → ts[0]? = some t := fun h => list_get0 h
  have arg0 : ∀ {x : EV} {l : List EV}, args = x :: l → ∃ x', args'[0]? = some x' ∧ VRel ρ x x' := by
    intro x l e
    subst e
    exact ha.getA rfl
  have arg1 : ∀ {x y : EV} {l : List EV}, args = x :: y :: l → ∃ y', args'[1]? = some y' ∧ VRel ρ y y' := by
    intro x y l e
    subst e
    exact ha.getA rfl
  unfold builtinE at he
  split at he
  · -- len
    rename_i t tr x xs hte
    obtain ⟨e, h1, rfl⟩ := map_some he
    obtain ⟨x', hx0, hx⟩ := arg0 rfl
    exact goodN_v hr (len_rel ht hr (hts hte) hx0 hx h1)
  · -- cap
    rename_i t tr x xs hte
    obtain ⟨x', hx0, hx⟩ := arg0 rfl
    split at he
    · rename_i hd
      cases he
      exact goodN_v hr (cap_rel ht hd (hts hte) hx0 hx (.inl ⟨_, _, _, _, _, _, rfl, rfl, rfl⟩) w)
    · rename_i hd
      cases he
      exact goodN_v hr (cap_rel ht hd (hts hte) hx0 hx (.inr ⟨_, rfl, rfl, rfl⟩) w)
    · cases he
  · obtain ⟨e, h1, rfl⟩ := map_some he
    exact goodN_v hr (min_rel ha h1 w)
  · obtain ⟨e, h1, rfl⟩ := map_some he
    exact goodN_v hr (max_rel ha h1 w)
  · -- append
    rename_i t u tr s x xs hte
    obtain ⟨s', hs0, hs⟩ := arg0 rfl
    obtain ⟨x', hx0, hx⟩ := arg1 rfl
    refine append_rel (rest := xs) ht hr hn hlt hte hs0 hx0 hs hx ?_
    rw [hte]
    unfold builtinE
    exact he
  · -- copy
    rename_i t tr d x xs hte
    obtain ⟨d', hd0, hd'⟩ := arg0 rfl
    obtain ⟨x', hx0, hx⟩ := arg1 rfl
    split at he
    · rename_i e hd
      split at he
      · rename_i es hes
        split at he
        · rename_i news m n off len cap es' hsrc
          split at he
          · rename_i hb
            obtain ⟨rfl, hl⟩ := hb
            split at he
            · rename_i h' hw
              cases he
              obtain ⟨w', g1, g2, g3⟩ := copy_rel (ty := ty) ht hr (· = nm) hd hes (hts hte) hd0 hx0 hd' hx hsrc hl rfl hw
              exact goodN_new ⟨ρ, _, w', g1, .int _ _, g2, g3⟩
            · cases he
          · cases he
        · rename_i news m hsrc
          split at he
          · rename_i hl
            cases he
            exact goodN_v hr ⟨_, copy_nil_rel ht hr hd hes (hts hte) hd0 hx0 hd' hx hsrc hl, .int _ _⟩
          · cases he
        · cases he
      · cases he
    · cases he
  · -- the pointer to a slice's first element
    cases he
    refine goodN_v hr ⟨.pointer none, ?_, .nilPtr⟩
    obtain ⟨a'⟩ := args'
    cases ha with | cons _ _ _ _ h1 h2 => ?_
    cases h2; cases h1
    rfl
  · rename_i n off len cap es
    split at he
    · cases he
    · rename_i h0
      cases he
      obtain ⟨a'⟩ := args'
      cases ha with | cons _ _ _ _ h1 h2 => ?_
      cases h2
      cases h1 with | slice _ _ _ _ _ L o' c' hL hlc hcc hoo => ?_
      have ho' : o' = L.sh + off := by
        rcases hoo with h3 | ⟨h3, _⟩
        · omega
        · exact h3
      subst ho'
      refine goodN_v hr ⟨.pointer (some ⟨L.b, L.sh + off, none⟩), ?_, .ptr _ _ L hL⟩
      have hdef : ∀ a : Addr, Builtin.unsafeSliceData_ ts ty #[.slice (some a) len c'] = (do
          if c' ≠ 0 then pure (.pointer (some a))
          else if (← viewAt a.block).isSome then pure (.pointer (some a))
          else pure (.pointer (some ⟨← newObj (.view a (← elemOf ty)), 0, none⟩)) : Sem Value) := fun a => rfl
      show (Builtin.unsafeSliceData_ ts ty #[.slice (some ⟨L.b, L.sh + off, none⟩) len c']).run P w = _
      rw [hdef, if_pos (show c' ≠ 0 by omega)]
      rfl
  · -- the string at a pointer
    rename_i t tr k hte
    split at he
    · rename_i hk
      cases he
      subst hk
      have ht0 := hts hte
      obtain ⟨a'⟩ := args'
      cases ha with | cons _ _ _ _ h1 h2 => ?_
      cases h2 with | cons _ _ _ _ h2 h3 => ?_
      cases h3; cases h1; cases h2
      refine goodN_v hr ⟨.string .empty, ?_, .str _ _ rfl⟩
      obtain ⟨z0, z1, z2, z3, z4, hdef⟩ : ∃ z0 z1 z2 z3 z4 : String, ∀ (p : Option Addr) (l : Value), Builtin.unsafeString_ ts ty #[.pointer p, l] = (do
        let n ← asInt l
        let some pt := ts[0]? | stuck z0
        if n < 0 then runtimePanic (.error z1)
        if n > IntKind.i64.max then unsupported (.unsafePointer z2)
        match p with
        | none =>
          if n = 0 then pure (.string .empty)
          else runtimePanic (.error z3)
        | some a =>
          if n = 0 then pure (.string .empty)
          else if ← variablesAt a (← elemOf pt) n.toNat then do
            let s ← loadBytes a .empty n.toNat
            freeze a n.toNat
            pure (.string s)
          else unsupported (.unsafePointer z4) : Sem Value) := ⟨_, _, _, _, _, fun p l => rfl⟩
      have : ¬ ((0 : Int) > IntKind.i64.max) := by decide
      show (Builtin.unsafeString_ ts ty #[.pointer none, _]).run P w = _
      rw [hdef]
      simp [asInt, asIntOf, ht0]
    · cases he
  · rename_i t tr n off ik k hte
    have ht0 := hts hte
    split at he
    · rename_i hk
      split at he
      · rename_i c e vr hg
        split at he
        · rename_i u l hu hes hrd
          split at he
          · rename_i hue
            subst hue
            split at he
            · rename_i bs hbs
              cases he
              obtain ⟨a'⟩ := args'
              cases ha with | cons _ _ _ _ h1 h2 => ?_
              cases h2 with | cons _ _ _ _ h2 h3 => ?_
              cases h3
              cases h1 with | ptr _ _ L hL => ?_
              cases h2
              obtain ⟨cc, fr, p1, p2, p3, p4, p5⟩ := hr.live n _ L hg hL
              obtain ⟨cc', fr', hrow⟩ := hr.row hg hL
              have := hrow.heap
              rw [p1] at this
              cases this
              obtain ⟨rb, rv⟩ := hrow.read hrd
              have hkpos : 0 < k.toNat := by omega
              have hbd := rb hkpos
              obtain ⟨ks, hks1, hks2⟩ := bytesE_rel rv hbs
              have hkl : ks.length = k.toNat := by
                have h5 := congrArg List.length hks1
                simp at h5
                omega
              obtain ⟨s, hs1, hs2⟩ := run_loadBytes (P := P) p1 ks (L.sh + off) .empty (fun i k' hi => by
                have h6 : (ks.map (Value.int .u8 ·))[i]? = some (.int .u8 k') := by rw [List.getElem?_map, hi]; rfl
                rw [← hks1, Array.getElem?_toList, Array.getElem?_extract] at h6
                split at h6
                · exact h6
                · cases h6)
              rw [hkl] at hs1
              have hva : (variablesAt ⟨L.b, L.sh + off, none⟩ u k.toNat).run P w = .ok true w := by
                obtain ⟨iu, hiu, hiz⟩ := size_info hes
                have e1 := cellsOf_info (ht.inf _ _ hiu)
                unfold variablesAt
                simp only [Sem.run_bind, run_program, Result.andThen_ok, run_shape, shape_row p1, Sem.run_pure]
                rw [liesAt_whole]
                · rw [e1, hiz]; exact Nat.one_ne_zero
                · rw [e1, hiz]; exact Nat.mod_one _
                · rw [e1, hiz, Nat.div_one, Nat.div_one]; exact hbd
              have htf := turned_freeze (off := L.sh + off) (n := k.toNat) p1 (by omega)
              obtain ⟨r1, r2⟩ := Rel.del (· = nm) hr hg hL htf
              refine goodN_new ⟨ρ, .string s, _, ?_, .str _ _ (by rw [hs2, hks2]; rfl), r1, r2⟩
              obtain ⟨z0, z1, z2, z3, z4, hdef⟩ : ∃ z0 z1 z2 z3 z4 : String, ∀ (p : Option Addr) (l : Value), Builtin.unsafeString_ ts ty #[.pointer p, l] = (do
                let n ← asInt l
                let some pt := ts[0]? | stuck z0
                if n < 0 then runtimePanic (.error z1)
                if n > IntKind.i64.max then unsupported (.unsafePointer z2)
                match p with
                | none =>
                  if n = 0 then pure (.string .empty)
                  else runtimePanic (.error z3)
                | some a =>
                  if n = 0 then pure (.string .empty)
                  else if ← variablesAt a (← elemOf pt) n.toNat then do
                    let s ← loadBytes a .empty n.toNat
                    freeze a n.toNat
                    pure (.string s)
                  else unsupported (.unsafePointer z4) : Sem Value) := ⟨_, _, _, _, _, fun p l => rfl⟩
              have n1 : ¬ k < 0 := by omega
              have n2 : ¬ k > IntKind.i64.max := by
                have : IntKind.i64.max = 9223372036854775807 := by decide
                rw [this]; omega
              have n3 : ¬ k = 0 := by omega
              show (Builtin.unsafeString_ ts ty #[.pointer (some ⟨L.b, L.sh + off, none⟩), .int _ k]).run P w = _
              rw [hdef]
              simp only [asInt, asIntOf, Sem.run_bind, Sem.run_pure, Result.andThen_ok, ht0, n1, n2, n3, if_false, elemOf, ht.run_und hu, hva, if_true, hs1, run_freeze]
            · cases he
          · cases he
        · cases he
      · cases he
    · cases he
  · -- delete
    rename_i t tr m k xs hte
    obtain ⟨h', h1, rfl⟩ := map_some he
    obtain ⟨m', hm0, hm⟩ := arg0 rfl
    obtain ⟨k', hk0, hk⟩ := arg1 rfl
    obtain ⟨w', g1, g2, g3⟩ := mapDel_rel (ty := ty) ht hr (· = nm) (hts hte) hm0 hk0 hm hk h1
    exact goodN_new ⟨ρ, _, w', g1, .tuple _ _ .nil, g2, g3⟩
  · -- clear
    rename_i t tr x xs hte
    obtain ⟨x', hx0, hx⟩ := arg0 rfl
    split at he
    · rename_i e n off len cap es' hd
      split at he
      · rename_i z es hz hes
        split at he
        · rename_i hee
          subst hee
          obtain ⟨h', hw, rfl⟩ := map_some he
          cases hx with | slice _ _ _ _ _ L o' c' hL hlc hcc hoo => ?_
          obtain ⟨zv, hzr, hzv⟩ := zero_rel ht hz
          have hzc := (hzv ρ).cells
          have hrp : VRels ρ (repl z.cells len) (Builtin.zeroCells zv.cells len).toList := by
            have hl0 := hzc.length
            simp only [Array.length_toList] at hl0
            rcases Nat.eq_zero_or_pos z.cells.length with h00 | h00
            · refine VRels.of_get ?_ ?_
              · have e9 : (Builtin.zeroCells zv.cells len).toList.length = len * zv.cells.size := by rw [Array.length_toList, zeroCells_size]
                rw [repl_length, e9, hl0]
              · intro i e' hi
                have := (List.getElem?_eq_some_iff.1 hi).1
                rw [repl_length, h00] at this
                omega
            · have := repl_rel hzc h00 len
              unfold Builtin.zeroCells
              rw [← hl0] at *
              exact this
          obtain ⟨w', g1, g2, g3⟩ := write_rel hr (· = nm) hw hL hrp
          refine goodN_new ⟨ρ, .tuple #[], w', ?_, .tuple _ _ .nil, g2, g3⟩
          unfold Builtin.clear_
          simp only [hts hte, hx0, Sem.run_bind, ht.run_und hd, Result.andThen_ok]
          rcases Nat.eq_zero_or_pos len with h00 | h00
          · subst h00
            have e0 : (Builtin.zeroCells zv.cells 0).toList = [] := by
              apply List.eq_nil_of_length_eq_zero
              rw [Array.length_toList, zeroCells_size, Nat.zero_mul]
            rw [e0] at g1
            have e1 : w = w' := by
              have : Result.ok () w = Result.ok () w' := g1
              injection this
            subst e1
            rfl
          · have ho' : o' = L.sh + off := by
              rcases hoo with h3 | ⟨h3, _⟩
              · omega
              · exact h3
            subst ho'
            obtain ⟨len', rfl⟩ : ∃ l, len = l + 1 := ⟨len - 1, by omega⟩
            simp only [Sem.run_bind, hzr, Result.andThen_ok, g1, Sem.run_pure]
        · cases he
      · cases he
    · rename_i e hd
      cases he
      cases hx
      refine goodN_v hr ⟨.tuple #[], ?_, .tuple _ _ .nil⟩
      unfold Builtin.clear_
      simp only [hts hte, hx0, Sem.run_bind, ht.run_und hd, Result.andThen_ok, Sem.run_pure]
    · cases he
  · cases he

end Go.Eng

namespace Go.Eng
open Go
variable [Syms]

variable {P : Program} {tb : Tab} {ρ : Ren} {h : EH} {w : World} {nm : Nat} {f : Fr} {a : Act} {o : Oper} {r : OR}

theorem method_rel (ht : TabOk P tb) (hr : Rel P ρ h w) {t : TypeId} {v : EV} {v' : Value} {name : String} {g : FuncId} {p : Bool} {e : EV} (hv : VRel ρ v v') (hm : methodE tb t name = some (g, p)) (he : recvE tb h t v p = some e) (n : Nat) :
    ∃ r', (method (n + 1) t v' name).run P w = .ok (g, r') w ∧ VRel ρ e r' := by
  unfold methodE at hm
  split at hm
  · rename_i i hi
    split at hm
    · rename_i m hfind
      cases hp : m.path.isEmpty with
      | false => rw [hp] at hm; cases hm
      | true =>
        rw [hp] at hm
        simp only [cond_true] at hm
        have hpl : m.path.toList = [] := by simpa using hp
        have hfind' : i.methods.find? (fun x => x.name == name) = some m := by rw [← Array.find?_toList]; exact hfind
        have key : ∃ r', (receiverAt t (.val v') p (some ((name.splitOn ".").getLastD name))).run P w = .ok r' w ∧ VRel ρ e r' := by
          unfold recvE at he
          split at he
          · rename_i elem hd
            unfold receiverAt
            simp only [Sem.run_bind, ht.run_und hd, Result.andThen_ok]
            cases p with
            | true =>
              simp only [cond_true] at he
              cases he
              exact ⟨v', rfl, hv⟩
            | false =>
              simp only [cond_false] at he
              split at he
              · rename_i n0 off
                cases hv with | ptr _ _ L hL => ?_
                obtain ⟨r', h1, h2⟩ := load_rel ht hr he hL
                refine ⟨r', ?_, h2⟩
                have hs : ∀ (s1 s2 : String), Builtin.ssaWrapNilChk_ #[t] t #[.pointer (some ⟨L.b, L.sh + off, none⟩), strVal s1, strVal s2] = pure (.pointer (some ⟨L.b, L.sh + off, none⟩)) := fun _ _ => rfl
                simp only [Place.get, Sem.run_bind, Sem.run_pure, Result.andThen_ok, asAddr, hs, h1]
              · cases he
          · rename_i d hnp hd
            cases p with
            | true => cases he
            | false =>
              simp only [cond_false] at he
              cases he
              refine ⟨v', ?_, hv⟩
              unfold receiverAt
              simp only [Sem.run_bind, ht.run_und hd, Result.andThen_ok]
              cases d <;> first | rfl | exact absurd rfl (hnp _)
          · cases he
        obtain ⟨r', h1, h2⟩ := key
        refine ⟨r', ?_, h2⟩
        unfold method
        simp only [Sem.run_bind, ht.run_inf hi, Result.andThen_ok, hfind', hpl, follow, Sem.run_pure, hm, hp, if_true, h1]
    · cases hm
  · cases hm

theorem VRels.cons1 {e : EV} {es : List EV} {vs : Array Value} (h : VRels ρ (e :: es) vs.toList) : ∃ v, vs[0]? = some v ∧ VRel ρ e v ∧ VRels ρ es (vs.extract 1 vs.size).toList := by
  obtain ⟨v, h1, h2⟩ := h.getA (i := 0) rfl
  refine ⟨v, h1, h2, ?_⟩
  have := h.drop 1
  simp only [List.drop_one, List.tail_cons] at this
  have e1 : (vs.extract 1 vs.size).toList = vs.toList.tail := by
    rw [Array.toList_extract, List.extract_eq_take_drop, ← List.drop_one, List.take_of_length_le]
    simp
  rw [e1]
  exact this

theorem callMethod_rel (ht : TabOk P tb) (hr : Rel P ρ h w) {t : TypeId} {v : EV} {name : String} {g : FuncId} {p : Bool} {e : EV} {rest : List EV} {args' : Array Value} (ha : VRels ρ (.iface t v :: rest) args'.toList) (hm : methodE tb t name = some (g, p)) (he : recvE tb h t v p = some e) :
    ∃ recv args2, args'[0]? = some recv ∧ (callMethod recv name (args'.extract 1 args'.size)).run P w = (callFunc g args2).run P w ∧ VRels ρ (e :: rest) args2.toList := by
  obtain ⟨recv, h1, h2, h3⟩ := ha.cons1
  cases h2 with | iface _ _ v' hv => ?_
  obtain ⟨r', h4, h5⟩ := method_rel ht hr hv hm he (P.types.size + 99)
  refine ⟨_, #[r'] ++ args'.extract 1 args'.size, h1, ?_, ?_⟩
  · unfold callMethod
    have : P.types.size + Made.depth = P.types.size + 99 + 1 := rfl
    simp only [Sem.run_bind, run_program, Result.andThen_ok, this, h4]
  · rw [Array.toList_append]
    exact .cons _ _ _ _ h5 h3

theorem invoke_rel (ht : TabOk P tb) (hr : Rel P ρ h w) {fn : Fn} {first cap args : List EV} {first' cap' args' : Array Value} (hny : ∀ l, fn ≠ .yield l) (h1 : VRels ρ first first'.toList) (h2 : VRels ρ cap cap'.toList) (ha : VRels ρ args args'.toList) (he : invokeE tb h fn first cap args = some r) :
    GoodN P ρ h w nm (invoke (.fn fn cap') (first' ++ args')) r := by
  have hfa : VRels ρ (first ++ args) (first' ++ args').toList := by rw [Array.toList_append]; exact h1.append ha
  unfold invokeE at he
  split at he
  · cases he
    refine ⟨first' ++ args' ++ cap', rfl, ?_⟩
    rw [Array.toList_append]
    exact hfa.append h2
  · exact absurd rfl (hny _)
  · split at he
    · rename_i t v rest hl
      rw [hl] at hfa
      split at he
      · rename_i g p hm
        split at he
        · rename_i e hrc
          cases he
          obtain ⟨recv, args2, g1, g2, g3⟩ := callMethod_rel ht hr hfa hm hrc
          refine ⟨args2, ?_, g3⟩
          unfold invoke
          simp only [g1]
          exact g2
        · cases he
      · cases he
    · cases he
  · rename_i t path g p
    split at he
    · rename_i elem x rest hd hl
      rw [hl] at hfa
      cases hc : (path.isEmpty && p) with
      | false => rw [hc] at he; cases he
      | true =>
        rw [hc] at he
        cases he
        simp only [Bool.and_eq_true] at hc
        obtain ⟨c1, rfl⟩ := hc
        have hpl : path.toList = [] := by simpa using c1
        obtain ⟨x', g1, g2, g3⟩ := hfa.cons1
        refine ⟨#[x'] ++ (first' ++ args').extract 1 (first' ++ args').size, ?_, ?_⟩
        · unfold invoke
          simp only [g1]
          have : (receiverVia t x' path true).run P w = .ok x' w := by
            unfold receiverVia receiverAt
            simp only [hpl, follow, Sem.run_bind, Sem.run_pure, Result.andThen_ok, ht.run_und hd, Place.get]
          simp only [Sem.run_bind, this, Result.andThen_ok]
        · rw [Array.toList_append]
          exact .cons _ _ _ _ g2 g3
    · cases he
  · cases he

theorem sound_call {c : Call} (ht : TabOk P tb) (hf : FRel ρ f a.tmps) (hr : Rel P ρ h w) (hn : ρ nm = none) (hlt : nm < h.next) (ho : o.op = .call c) (hx : opE tb h nm f o = some r) : Good P ρ h w nm o a r := by
  simp only [opE, ho] at hx
  unfold callE1 at hx
  refine goodN_good (by simp only [noisy, ho]) ?_
  have hex : execOp a.eval o = (do let d ← resolve a.eval c o.type; invoke d.target d.args) := by simp only [execOp, ho]
  split at hx
  · rename_i args hargs
    have har : VRels ρ args (c.args.map a.eval).toList := by
      have := evs_rel hf hargs
      simpa using this
    split at hx
    · rename_i b hb
      refine goodN_run (builtin_rel (ty := o.type) (cs := (c.args.map fun | .const _ => true | _ => false)) ht hr hn hlt har hx) ?_
      rw [hex]
      unfold resolve
      simp only [hb, Sem.run_bind, Sem.run_pure, Result.andThen_ok]
      rfl
    · rename_i g hg
      split at hx
      · rename_i fn first cap hev
        have hgr := ev_rel hf hev
        by_cases hy : ∃ l, fn = .yield l
        · obtain ⟨l, rfl⟩ := hy
          unfold invokeE at hx
          simp only at hx
          split at hx
          · cases hx
            generalize hgv : a.eval g = gv at hgr
            cases hgr with
            | func _ _ _ _ _ hn1 _ _ => exact absurd rfl (hn1 l)
            | yield _ L hL =>
              refine ⟨L, c.args.map a.eval, hL, ?_, har⟩
              rw [hex]
              unfold resolve
              simp only [hg, hgv, Deferred.ofValue, Sem.run_bind, Sem.run_pure, Result.andThen_ok, invoke]
              congr 2
              simp
          · cases hx
        · generalize hgv : a.eval g = gv at hgr
          cases hgr with
          | yield _ L hL => exact absurd ⟨_, rfl⟩ hy
          | func _ _ _ first' cap' hn1 hq1 hq2 =>
            refine goodN_run (invoke_rel ht hr hn1 hq1 hq2 har hx) ?_
            rw [hex]
            unfold resolve
            simp only [hg, hgv, Deferred.ofValue, Sem.run_bind, Sem.run_pure, Result.andThen_ok]
      · cases hx
    · rename_i rr name hrn
      split at hx
      · rename_i x hev
        have hxr := ev_rel hf hev
        have hal : VRels ρ (x :: args) (#[a.eval rr] ++ c.args.map a.eval).toList := by
          rw [Array.toList_append]
          exact .cons _ _ _ _ hxr har
        refine goodN_run (invoke_rel (first' := #[]) (cap' := #[]) (args' := #[a.eval rr] ++ c.args.map a.eval) ht hr (fun l e => by cases e) .nil .nil hal hx) ?_
        rw [hex]
        unfold resolve
        simp only [hrn, Sem.run_bind, Sem.run_pure, Result.andThen_ok]
        rw [show (#[] : Array Value) ++ (#[a.eval rr] ++ c.args.map a.eval) = #[a.eval rr] ++ c.args.map a.eval by simp]
      · cases hx
  · cases hx

/-- What the engine says of an operation is so. -/
theorem opE_sound (ht : TabOk P tb) (hf : FRel ρ f a.tmps) (hr : Rel P ρ h w) (hn : ρ nm = none) (hlt : nm < h.next) (hx : opE tb h nm f o = some r) : Good P ρ h w nm o a r := by
  have hx' := hx
  cases ho : o.op <;> simp only [opE, ho] at hx <;> first
    | (cases hx; done)
    | exact sound_move hf hr (.inl ho) hx'
    | exact sound_move hf hr (.inr ho) hx'
    | exact sound_pick hf hr ho hx'
    | exact sound_alloc ht hr hn hlt ho hx'
    | exact sound_box ht hf hr hn hlt ho hx'
    | exact sound_build ht hf hr ho hx'
    | exact sound_buildSlice ht hf hr hn hlt ho hx'
    | exact sound_load ht hf hr ho hx'
    | exact sound_store ht hf hr ho hx'
    | exact sound_nilCheck hf hr ho hx'
    | exact sound_binOp ht hf hr ho hx'
    | exact sound_unOp hf hr ho hx'
    | exact sound_makeInterface ht hf hr ho hx'
    | exact sound_makeFunc hf hr ho hx'
    | exact sound_makeSlice ht hf hr hn hlt ho hx'
    | exact sound_slice ht hf hr ho hx'
    | exact sound_fieldAddr ht hf hr ho hx'
    | exact sound_field ht hf hr ho hx'
    | exact sound_indexAddr ht hf hr ho hx'
    | exact sound_index ht hf hr ho hx'
    | exact sound_lookup ht hf hr ho hx'
    | exact sound_mapUpdate ht hf hr (.inl ho) hx'
    | exact sound_mapUpdate ht hf hr (.inr ho) hx'
    | exact sound_range ht hf hr hn hlt ho hx'
    | exact sound_next hf hr ho hx'
    | exact sound_entry hf hr ho hx'
    | exact sound_typeAssert ht hf hr ho hx'
    | exact sound_extract hf hr ho hx'
    | exact sound_call ht hf hr hn hlt ho hx'
    | skip
  · rename_i s d x
    split at hx
    · rename_i x0 h1
      split at hx
      · rename_i v h' h2
        cases hx
        rcases convert_rel ht hr hn hlt (ev_rel hf h1) h2 with ⟨rfl, hq⟩ | ⟨_, hq⟩
        · exact good_v (s := convert s d (a.eval x)) (by simp only [execOp, ho]) hr hq
        · exact good_new (hz := by simp only [noisy, ho]) (s := convert s d (a.eval x)) (by simp only [execOp, ho]) hq
      · cases hx
    · cases hx
  · rename_i t rs
    cases rs with
    | none => exact sound_makeMap hr hn hlt ho hx'
    | some x => cases hx

end Go.Eng

/- A part of the proof of DeskLimits: the runs of the document's example and of the law's body, and facts of the row. Conditions: none. -/
import Derived.Test.YtcagaoplekniaaaGreatDoorInsertW
import Derived.Test.YtcagaoplekniaaaGreatDoorSeatKit
import Derived.Test.YtcagaoplekniaaaGreatDoorEngM
namespace Go.Eng
open Go Go.RowKit Go.Proofs
variable [Syms]

/-- slices.Insert of one entry, within. -/
noncomputable def insW (args : List EV) (h : EH) : Option (EV × EH) :=
  match args with
  | [.slice n off len none 3, .int .i64 i, .slice vn voff 1 _ 3] =>
    match decide (0 ≤ i) && (Nat.blt i.toNat len && (Nat.ble len 1000000 && !Nat.beq n vn)) with
    | true => match h.get n, h.get vn with
      | some (.cells c e _), some (.cells cv ev _) => match Nat.beq e 218 && Nat.beq ev 218, readFrom c off (len * 3), readFrom cv voff 3 with
        | true, some old, some new => some (.slice h.next 0 (len + 1) none 3, (⟨h.objs.del n, h.next + 1⟩ : EH).set h.next (.cells (rowOf (old.take (i.toNat * 3) ++ (new ++ old.drop (i.toNat * 3)))) 218 false))
        | _, _, _ => none
      | _, _ => none
    | false => none
  | _ => none

omit [Syms] in
theorem turned_setCells {b : Nat} {e : TypeId} {fr : Nat × Nat} : ∀ (vs : List Value) (o : Nat) (c : Array Value) (w : World), w.heap[b]? = some (.cells c e fr) → Turned b (.cells (setRow c o vs) e fr) w (w.setCells b o vs)
  | [], _, _, _, h => .refl h
  | v :: vs, o, c, w, h => by
    rw [World.setCells]
    have h1 := turned_setCell (i := o) h v
    exact h1.trans (turned_setCells vs (o + 1) _ _ h1.at_)

omit [Syms] in
theorem toArr_get {α : Type} (l : List α) (k : Nat) : l.toArray[k]? = l[k]? := by simp

omit [Syms] in
theorem splice_get {α : Type} (cs vs : List α) (i k : Nat) (hi : i ≤ cs.length) : (cs.take i ++ (vs ++ cs.drop i))[k]? = if k < i then cs[k]? else if k < i + vs.length then vs[k - i]? else cs[k - vs.length]? := by
  by_cases h1 : k < i
  · rw [if_pos h1, List.getElem?_append_left (by rw [List.length_take]; omega), List.getElem?_take, if_pos h1]
  · rw [if_neg h1, List.getElem?_append_right (by rw [List.length_take]; omega), List.length_take, Nat.min_eq_left hi]
    by_cases h2 : k < i + vs.length
    · rw [if_pos h2, List.getElem?_append_left (by omega)]
    · rw [if_neg h2, List.getElem?_append_right (by omega), List.getElem?_drop]
      congr 1; omega

theorem insW_ok : IntrOk Go.Proofs.Tryz.prog 410 insW := by
  intro args h v h' hx ρ w args' hr ha
  unfold insW at hx
  split at hx
  rotate_left
  · cases hx
  rename_i n off len i vn voff vcap
  split at hx
  rotate_left
  · cases hx
  rename_i hb
  split at hx
  rotate_left
  · cases hx
  rename_i c e vr cv ev vrv hg hgv
  split at hx
  rotate_left
  · cases hx
  rename_i old new hty hold hnew
  cases hx
  simp only [Bool.and_eq_true, Bool.not_eq_true'] at hb hty
  obtain ⟨b1, b2, b3, b4⟩ := hb
  obtain ⟨t1, t2⟩ := hty
  have b1 := of_decide_eq_true b1
  have b2 : i.toNat < len := Nat.le_of_ble_eq_true b2
  have b3 := Nat.le_of_ble_eq_true b3
  have b4 := Nat.ne_of_beq_eq_false b4
  have t1 := Nat.eq_of_beq_eq_true t1
  have t2 := Nat.eq_of_beq_eq_true t2
  subst t1 t2
  obtain ⟨i, rfl⟩ := Int.eq_ofNat_of_zero_le b1
  simp only [Int.toNat_natCast] at *
  obtain ⟨v1, v2, v3, rfl⟩ : ∃ v1 v2 v3, args' = #[v1, v2, v3] := by
    have h1 := ha.length
    match args', h1 with
    | ⟨[a, b, c]⟩, _ => exact ⟨a, b, c, rfl⟩
  cases ha with | cons _ _ _ _ ha1 ha2 => ?_
  cases ha2 with | cons _ _ _ _ ha2 ha3 => ?_
  cases ha3 with | cons _ _ _ _ ha3 _ => ?_
  cases ha2
  cases ha1 with | slice _ _ _ _ _ Lc o C hL hlc hcc hoo => ?_
  cases ha3 with | slice _ _ _ _ _ Lv ov Cv hLv hlcv hccv hoov => ?_
  have hC := hcc.2 rfl
  obtain ⟨ho, hsz⟩ : o = Lc.sh + off ∧ o + C * 3 ≤ Lc.sz := by
    rcases hoo with h3 | h3
    · omega
    · exact h3
  obtain ⟨hov, hszv⟩ : ov = Lv.sh + voff ∧ ov + Cv * 3 ≤ Lv.sz := by
    rcases hoov with h3 | h3
    · omega
    · exact h3
  obtain ⟨cc, fr, p1, p2, p3, p4, p5⟩ := hr.live n _ Lc hg hL
  obtain ⟨cd, fv, r1, r2, r3, r4, r5⟩ := hr.live vn _ Lv hgv hLv
  have hu : Go.Proofs.Tryz.prog.underlying 218 ≠ some (.int .u8) := by
    rw [Go.Proofs.Tryz.underlying218]; intro e; cases e
  have p4' : fr.1 = fr.2 := by
    rcases p4 with p4 | ⟨_, p4⟩
    · exact p4
    · exact absurd p4 hu
  have r4' : fv.1 = fv.2 := by
    rcases r4 with r4 | ⟨_, r4⟩
    · exact r4
    · exact absurd r4 hu
  have hrow : RowAt Go.Proofs.Tryz.prog ρ w Lc c 218 cc fr := ⟨p1, p2, fun k _ => by omega, p5⟩
  have hrowv : RowAt Go.Proofs.Tryz.prog ρ w Lv cv 218 cd fv := ⟨r1, r2, fun k _ => by omega, r5⟩
  obtain ⟨rb, rv⟩ := hrow.read hold
  obtain ⟨rbv, rvv⟩ := hrowv.read hnew
  have ro := hrow.ones hold
  have rov := hrowv.ones hnew
  rw [← ho] at rb rv ro
  rw [← hov] at rbv rvv rov
  have rb := rb (by omega)
  have rbv := rbv (by omega)
  have hne : Lv.b ≠ Lc.b := fun e => b4 (hr.inj _ _ _ _ _ _ hgv hg hLv hL e).symm
  generalize hcs : (cc.extract o (o + len * 3)).toList = cs at rv ro
  generalize hvs : (cd.extract ov (ov + 3)).toList = vs at rvv rov
  have hcl : cs.length = len * 3 := by rw [← hcs]; simp; omega
  have hvl : vs.length = 1 * 3 := by rw [← hvs]; simp; omega
  have hcg : ∀ j u, cs[j]? = some u → cc[o + j]? = some u := fun j u hj => by
    rw [← hcs, Array.getElem?_toList, Array.getElem?_extract] at hj
    split at hj
    · exact hj
    · cases hj
  have hvg : ∀ j u, vs[j]? = some u → cd[ov + j]? = some u := fun j u hj => by
    rw [← hvs, Array.getElem?_toList, Array.getElem?_extract] at hj
    split at hj
    · exact hj
    · cases hj
  have hceq : ∀ k, k < len * 3 → cs[k]? = cc[o + k]? := fun k hk => by
    rw [← hcs, Array.getElem?_toList, Array.getElem?_extract, if_pos (by omega)]
  obtain ⟨r0, x0⟩ := hr.reserve (fun _ => False) (k := h.next + 1) (Nat.le_succ _)
  have hnone := hr.fresh (n := h.next) (Nat.le_refl _)
  have hboth : VRels ρ (old.take (i * 3) ++ (new ++ old.drop (i * 3))) (cs.take (i * 3) ++ (vs ++ cs.drop (i * 3))) := (rv.take _).append (rvv.append (rv.drop _))
  have hones : ∀ u ∈ cs.take (i * 3) ++ (vs ++ cs.drop (i * 3)), u.oneCell' = true := by
    intro u hu
    rcases List.mem_append.1 hu with hu | hu
    · exact ro u (List.mem_of_mem_take hu)
    · rcases List.mem_append.1 hu with hu | hu
      · exact rov u hu
      · exact ro u (List.mem_of_mem_drop hu)
  have hfz : ∀ k, w.frozen? ⟨Lc.b, k, none⟩ = false := fun k => by
    obtain ⟨f1, f2⟩ := fr
    simp only at p4'
    simp [World.frozen?, p1]; omega
  have hfzv : ∀ k, w.frozen? ⟨Lv.b, k, none⟩ = false := fun k => by
    obtain ⟨f1, f2⟩ := fv
    simp only at r4'
    simp [World.frozen?, r1]; omega
  have henter : (callFunc 410 #[.slice (some ⟨Lc.b, o, none⟩) len C, .int .i64 (i : Int), .slice (some ⟨Lv.b, ov, none⟩) 1 Cv]).run Go.Proofs.Tryz.prog w = .ok (.enter 410 _) w := enter0 (show tb0.fn 410 = some Go.Proofs.Tryz.f410 by kernel_rfl) rfl _ w
  refine .inl ⟨henter, fun _ => callsIn_wide.2 ?_⟩
  by_cases hroom : len + 1 ≤ C
  · refine (insert_shift Lc.b o len C i Lv.b ov 1 Cv cs vs w b2 (by omega) hroom hC hne hcl hvl (fun j u hj => by rw [Eng.cell_row p1]; exact hcg j u hj)
      (fun j hj => by rw [Eng.cell_row p1, Array.getElem?_eq_getElem (by omega)]; rfl) (fun j _ => hfz _) (fun j u hj => by rw [Eng.cell_row r1]; exact hvg j u hj) ro rov 218 218 cd.size cc.size (shape_row r1) (shape_row p1) (by omega) (hfzv _) (hfzv _)).mono ?_
    rintro e w' ⟨rfl, hw'⟩
    refine ⟨_, rfl, ?_⟩
    let R : Array Value := setRow (setRow cc (o + (i + 1) * 3) (cs.drop (i * 3))) (o + i * 3) vs
    have T0 : Turned Lc.b (.cells cc 218 fr) w w.drew := ⟨rfl, rfl, rfl, rfl, p1, fun _ _ => rfl⟩
    have T1 := turned_setCells (cs.drop (i * 3)) (o + (i + 1) * 3) cc w.drew p1
    have T2 := turned_setCells vs (o + i * 3) _ _ T1.at_
    rw [← hw'] at T2
    have T : Turned Lc.b (.cells R 218 fr) w w' := (T0.trans T1).trans T2
    have hRs : R.size = cc.size := by rw [setRow_size, setRow_size]
    obtain ⟨q1, q2⟩ := r0.rename (nm := h.next) (sh := o) (o' := .cells (rowOf (old.take (i * 3) ++ (new ++ old.drop (i * 3)))) 218 false) hg hL hnone (Nat.lt_succ_self _) T
      ⟨R, fr, rfl, by rw [hRs]; exact p2, (fun h => by cases h), .inl p4', by
        refine rowOf_rel (c := (cs.take (i * 3) ++ (vs ++ cs.drop (i * 3))).toArray) (by rw [List.toList_toArray]; exact hboth.mono (Ren.le_put hnone)) (by rw [List.toList_toArray]; exact hones) fun k hk => ?_
        rw [List.size_toArray, List.length_append, List.length_append, List.length_take, List.length_drop, hcl, hvl] at hk
        rw [toArr_get (cs.take (i * 3) ++ (vs ++ cs.drop (i * 3))), splice_get cs vs (i * 3) k (by omega)]
        show (setRow _ _ _)[o + k]? = _
        rw [setRow_get _ _ _ _ (by rw [setRow_size]; omega), setRow_get _ _ _ _ (by rw [List.length_drop]; omega), hvl, List.length_drop, hcl]
        by_cases h1 : k < i * 3
        · rw [if_neg (by omega), if_neg (by omega), if_pos h1, hceq k (by omega)]
        · rw [if_neg h1]
          by_cases h2 : k < i * 3 + 1 * 3
          · rw [if_pos (by omega), if_pos h2]
            exact congrArg (fun j => vs[j]?) (by omega)
          · rw [if_neg (by omega), if_pos (by omega), if_neg h2, List.getElem?_drop]
            exact congrArg (fun j => cs[j]?) (by omega)⟩
    exact cpost_new hr (.slice _ _ _ _ _ ⟨Lc.b, o, Lc.sz⟩ o C (Ren.put_same _ _ _) hroom (.wide hC) (.inr ⟨rfl, hsz⟩)) q1 q2
  · have hz : ∃ z, Go.Proofs.Tryz.t218.zero = some z ∧ z.cells.size = 3 := ⟨_, (by kernel_rfl : Go.Proofs.Tryz.t218.zero = some (.agg #[.string ⟨#[]⟩, .bool false, .int .u64 0])), rfl⟩
    obtain ⟨z, hz0, hz3⟩ := hz
    refine (insert_grow Lc.b o len C i Lv.b ov 1 Cv cs vs w b2 (by omega) hlc (by omega) (by omega) hcl hvl (fun j u hj => by rw [Eng.cell_row p1]; exact hcg j u hj)
      (fun j u hj => by rw [Eng.cell_row r1]; exact hvg j u hj) ro rov Go.Proofs.Tryz.t218 z (tab0.inf 218 _ (by kernel_rfl)) hz0 (by kernel_rfl) (of_decide_eq_true (by kernel_rfl)) hz3).mono ?_
    have hge : len + 1 ≤ Go.grownCap w (len + 1) C 218 := grownCap_ge w _ _ _
    have hle : Go.grownCap w (len + 1) C 218 ≤ 9223372036854775807 := by
      have := grownCap_le_maxLen w (len + 1) C 218 (by unfold maxLen; omega)
      unfold maxLen at this; omega
    rintro e w' ⟨rfl, hw'⟩
    refine ⟨_, rfl, ?_⟩
    generalize Go.grownCap w (len + 1) C 218 = G at hw' hge hle ⊢
    generalize hROW : (cs.take (i * 3)).toArray ++ Builtin.zeroCells z.cells (len + 1 - i) ++ Builtin.zeroCells z.cells (G - (len + 1)) = ROW at hw'
    have hRsz : ROW.size = G * 3 := by
      rw [← hROW]
      simp only [Array.size_append, zeroCells_size, hz3, List.size_toArray, List.length_take, hcl]
      omega
    let R : Array Value := setRow (setRow ROW (i * 3) vs) ((i + 1) * 3) (cs.drop (i * 3))
    have hRs : R.size = G * 3 := by rw [setRow_size, setRow_size, hRsz]
    have A0 : ((w.alloc (.cells ROW 218)).drew).heap[w.heap.size]? = some (.cells ROW 218 (0, 0)) := by
      show (w.heap.push _)[w.heap.size]? = _
      simp
    have T1 := turned_setCells vs (i * 3) ROW _ A0
    have T1' : Turned w.heap.size (.cells (setRow ROW (i * 3) vs) 218 (0, 0)) ((w.alloc (.cells ROW 218)).drew) (((w.alloc (.cells ROW 218)).drew.setCells w.heap.size (i * 3) vs).drew) := ⟨T1.os, T1.tape, T1.output, T1.size, T1.at_, T1.other⟩
    have T2 := turned_setCells (cs.drop (i * 3)) ((i + 1) * 3) _ _ T1'.at_
    rw [← hw'] at T2
    have T : Turned w.heap.size (.cells R 218 (0, 0)) ((w.alloc (.cells ROW 218)).drew) w' := T1'.trans T2
    have hb : Below w.heap.size w w' := by
      refine ⟨T.os, T.tape, T.output, ?_, fun k hk => ?_⟩
      · rw [T.size]
        show w.heap.size ≤ (w.heap.push _).size
        simp
      · rw [T.other k (by omega)]
        show (w.heap.push _)[k]? = _
        rw [Array.getElem?_push, if_neg (by omega)]
    obtain ⟨d1, d2⟩ := Rel.del (fun _ => False) r0 hg hL (.refl p1)
    obtain ⟨q1, q2⟩ := d1.newAt (nm := h.next) (g := w.heap.size) (sz := R.size) (o := .cells (rowOf (old.take (i * 3) ++ (new ++ old.drop (i * 3)))) 218 false) hnone (Nat.lt_succ_self _) hb (Nat.le_refl _) T.at_
      ⟨R, (0, 0), rfl, rfl, (fun h => by cases h), .inl rfl, by
        refine rowOf_rel (c := (cs.take (i * 3) ++ (vs ++ cs.drop (i * 3))).toArray) (by rw [List.toList_toArray]; exact hboth.mono (Ren.le_put hnone)) (by rw [List.toList_toArray]; exact hones) fun k hk => ?_
        rw [List.size_toArray, List.length_append, List.length_append, List.length_take, List.length_drop, hcl, hvl] at hk
        rw [toArr_get (cs.take (i * 3) ++ (vs ++ cs.drop (i * 3))), splice_get cs vs (i * 3) k (by omega), Nat.zero_add]
        show (setRow _ _ _)[k]? = _
        rw [setRow_get _ _ _ _ (by rw [setRow_size, hRsz, List.length_drop]; omega), setRow_get _ _ _ _ (by omega), hvl, List.length_drop, hcl]
        by_cases h1 : k < i * 3
        · rw [if_neg (by omega), if_neg (by omega), if_pos h1, ← hROW, Array.append_assoc, Array.getElem?_append_left (by rw [List.size_toArray, List.length_take]; omega), toArr_get (cs.take (i * 3)), List.getElem?_take, if_pos h1]
        · rw [if_neg h1]
          by_cases h2 : k < i * 3 + 1 * 3
          · rw [if_neg (by omega), if_pos (by omega), if_pos h2]
          · rw [if_pos (by omega), if_neg h2, List.getElem?_drop]
            exact congrArg (fun j => cs[j]?) (by omega)⟩
    exact cpost_new hr (.slice _ _ _ _ _ ⟨w.heap.size, 0, R.size⟩ 0 G (Ren.put_same _ _ _) hge (.wide hle) (.inr ⟨rfl, by simp only; omega⟩)) q1 (d2.trans q2 (fun _ h => h.elim) (fun _ h => h))

/-- slices.Insert of entries: within, by its contract; at the end, its own run. -/
noncomputable def insertI (args : List EV) (h : EH) : Option (EV × EH) :=
  Option.rec (callF (withI kitI) (execF (withI kitI) 1000) 410 args h) (fun r => some r) (insW args h)
theorem insertI_ok : IntrOk Go.Proofs.Tryz.prog 410 insertI := by
  intro args h v h' hx ρ w args' hr ha
  have hx' : (Option.rec (callF (withI kitI) (execF (withI kitI) 1000) 410 args h) (fun r => some r) (insW args h) : Option (EV × EH)) = some (v, h') := hx
  cases hi : insW args h with
  | none =>
    rw [hi] at hx'
    simp only at hx'
    rw [callF_eq, execF_eq] at hx'
    exact engine_call okK 1000 410 args h v h' hx' ρ w args' hr ha
  | some r =>
    rw [hi] at hx'
    cases hx'
    exact insW_ok args h v h' hi ρ w args' hr ha

/-- The library's functions, slices.Insert with them. -/
noncomputable def kitJ (f : FuncId) : Option (List EV → EH → Option (EV × EH)) := cond (Nat.beq f 410) (some insertI) (kitI f)
theorem okJ : FnOk Go.Proofs.Tryz.prog (withI kitJ) := okI fun g r h => by
  rcases okOpt h with ⟨b, e⟩ | ⟨_, e⟩
  · cases e
    obtain rfl := Nat.eq_of_beq_eq_true b
    exact insertI_ok
  · exact kit_ok g r e
end Go.Eng

/- A part of the proof of DeskLimits: the runs of the document's example and of the law's body, and facts of the row. Conditions: none. -/
import Derived.Test.YtcagaoplekniaaaGreatDoorDHead
namespace Go.Eng
open Go Go.RowKit Go.Proofs
variable [Syms]
set_option maxRecDepth 1000000

/-! The deferring function Do as an intrinsic: its run by the engine, with the closure's work behind it. -/

noncomputable def doF (k o nm : Nat) (l : EV) : Fr := ⟨55, litF [(0, .ptr k o), (1, l), (4, .ptr nm 0), (5, .int .i64 0)]⟩
noncomputable def doH (h : EH) : EH := EH.set ⟨h.objs, h.next + 1⟩ h.next (.cells (rowOf [.str []]) 9 true)
/-- "error 370" -/
def err370 : List Nat := [101, 114, 114, 111, 114, 32, 51, 55, 48]

noncomputable def doRet (tb : Tab) (f : Fr) (h : EH) : Option (EV × EH) := match resE tb f h Tryz.f5.results.toList with | some vs => some (retE vs, h) | none => none
/-- The run that ends in must(370). -/
noncomputable def doP (tb : Tab) (N : Nat) (a : Nat) (f : Fr) (h : EH) : Option (EV × EH) :=
  match runL (execF tb N) false (heads 4 (tail 3 doB)) f h with
  | .normal f3 h3 => match execF tb N false r9 f3 h3 with
    | .normal f4 h4 => match f4.get 41 with
      | some (.bool true) => match h4.write a 0 [.str err370], Nat.beq f4.n 55 with
        | some h5, true => doRet tb f4 h5
        | _, _ => none
      | _ => none
    | _ => none
  | _ => none
noncomputable def doI (tb : Tab) (N : Nat) (args : List EV) (h : EH) : Option (EV × EH) :=
  match args with
  | [.ptr k o, l] => match execF tb N false (tail 3 doB) (doF k o h.next l) (doH h) with
    | .ret f' h' => doRet tb f' h'
    | .fail => doP tb N h.next (doF k o h.next l) (doH h)
    | _ => none
  | _ => none

omit [Syms] in
theorem inv9 (p : Addr) (w : World) : (invoke (.fn (.func 9) #[.pointer (some p)]) #[]).run Tryz.prog w = .ok (.enter 9 #[.pointer (some p)]) w := by kernel_rfl

theorem doF_rel {ρ : Ren} {k o nm : Nat} {l : EV} {Lk La : Loc} {s : Value} (hk : ρ k = some Lk) (ha : ρ nm = some La) (hs : VRel ρ l s) (x : Array Value) (hx : x.size = 55) (x0 : x[0]? = some (.pointer (some ⟨Lk.b, Lk.sh + o, none⟩))) (x1 : x[1]? = some s)
    (x4 : x[4]? = some (.pointer (some ⟨La.b, La.sh + 0, none⟩))) (x5 : x[5]? = some (.int .i64 0)) : FRel ρ (doF k o nm l) x := by
  refine ⟨hx, fun t e hg => ?_⟩
  have hm := litF_get (l := [(0, .ptr k o), (1, l), (4, .ptr nm 0), (5, .int .i64 0)]) (show (litF _).get t = some e from hg)
  simp only [List.mem_cons, Prod.mk.injEq, List.not_mem_nil, or_false] at hm
  rcases hm with ⟨rfl, rfl⟩ | ⟨rfl, rfl⟩ | ⟨rfl, rfl⟩ | ⟨rfl, rfl⟩
  · exact ⟨_, x0, .ptr _ _ _ hk⟩
  · exact ⟨_, x1, hs⟩
  · exact ⟨_, x4, .ptr _ _ _ ha⟩
  · exact ⟨_, x5, .int _ _⟩

theorem doI_ok {tb : Tab} (ht : FnOk Tryz.prog tb) (N : Nat) (hit : ∀ w : World, (∀ b x, Syms.pin b = some x → w.heap[b]? = some (.cells x.1 x.2.1 x.2.2)) → Calls Tryz.prog 10 #[.int .i64 370] w fun e w' => e = .returned (.string ⟨#[51, 55, 48]⟩) ∧ Below w.heap.size w w')
    (enter5 : ∀ args w, (callFunc 5 args).run Tryz.prog w = .ok (.enter 5 args) w) : IntrOk Tryz.prog 5 (doI tb N) := by
  intro args h v h' hx ρ w args' hr ha
  unfold doI at hx
  split at hx
  rotate_left
  · cases hx
  rename_i k o l
  refine .inl ⟨enter5 _ _, fun n => ?_⟩
  obtain ⟨al⟩ := args'
  cases ha with
  | cons _ v0 _ vs h0 hs0 =>
  cases hs0 with
  | cons _ s _ vs2 hs hs2 =>
  cases hs2
  cases h0 with
  | ptr _ _ Lk hk =>
  -- the cell of the answer
  obtain ⟨r1, x1⟩ := hr.reserve (fun _ => False) (k := h.next + 1) (Nat.le_succ _)
  obtain ⟨ρ1, q1, q2, q3⟩ := new_row (nm := h.next) (l := [.str []]) (c := #[.string ⟨#[]⟩]) (e := 9) (vr := true) (w' := w.alloc (.cells #[.string ⟨#[]⟩] 9)) r1 (hr.fresh (Nat.le_refl _)) (Nat.lt_succ_self _)
    (.cons _ _ _ _ (.str _ _ rfl) .nil) (fun v hv => by simp at hv; subst hv; rfl) (fun _ => ⟨Tryz.t9, by kernel_rfl, rfl⟩) rfl rfl rfl rfl
  have X1 := x1.trans (S := (h.next ≤ ·)) q3 (fun _ h => h.elim) (fun m hm => by rw [hm]; exact Nat.le_refl _)
  have hnx : (doH h).next = h.next + 1 := rfl
  refine callsIn_of_wp_marks Tryz.func5 (show Tryz.f5.body = some doB from rfl) trivial ?_
  rw [doT0_eq]
  rw [doHead_eq]
  refine wpIn_wide.2 (head_lit _ _ s w _ ((wpIn_wide (n := n)).1 ?_))
  have hF := doF_rel (ρ := ρ1) (k := k) (o := o) (nm := h.next) (l := l) (q3.le _ _ hk) q1 (hs.mono q3.le) (doT ⟨Lk.b, Lk.sh + o, none⟩ ⟨w.heap.size, 0, none⟩ s) (doT_size _ _ _) (doT_0 _ _ _) (doT_1 _ _ _) (doT_4 _ _ _) (doT_5 _ _ _)
  split at hx
  · rename_i f' h2 hrun
    rw [execF_eq] at hrun
    unfold doRet at hx
    split at hx
    rotate_left
    · cases hx
    rename_i vs hvs
    cases hx
    refine wpIn_mono (sound1_exec ht hrun (fun e => by cases e) none n ρ1 _ _ hF q2 (fun _ e => by cases e)) fun e a' w' hq => ?_
    obtain ⟨ρ', f2, h3, z1, z2, z3, z4, bs, z5, z6, z7⟩ := hq
    cases e with
    | ret =>
      obtain ⟨rfl, rfl⟩ := z1
      show LeavesInM Fence.wide n Tryz.prog Tryz.f5 a'.tmps _ a'.defers .returning w'
      rw [z5]
      exact leave_idle ht.toTabOk z2 hvs (inv9 _) (fun n w => do1_idle n _ w) bs w' z3 z4 z6 z7 fun v' w'' y1 y2 y3 => ⟨v', rfl, ρ', y1, y2, X1.trans y3 (fun _ h => h) (fun m hm => by have : h.next + 1 ≤ m := hm; exact Nat.le_of_succ_le this)⟩
    | _ => exact z1.elim
  · unfold doP at hx
    split at hx
    rotate_left
    · cases hx
    rename_i f3 h3 hrun3
    split at hx
    rotate_left
    · cases hx
    rename_i f4 h4 hrun4
    split at hx
    rotate_left
    · cases hx
    rename_i h41
    split at hx
    rotate_left
    · cases hx
    rename_i h5 hw hn5
    unfold doRet at hx
    split at hx
    rotate_left
    · cases hx
    rename_i vs hvs
    cases hx
    rw [execF_eq] at hrun3 hrun4
    rw [← seqs_heads 4 (tail 3 doB)]
    refine runL_q ht _ _ _ ρ1 _ _ hrun3 hF q2 fun ρ3 a3 w3 p1 p2 p3 p4 => ?_
    rw [show tail 4 (tail 3 doB) = tail 7 doB by kernel_rfl, tail7_eq]
    refine wpIn_seq (sound_seq_q (sound1_exec ht hrun4 (fun e => by cases e)) p1 p2 fun ρ4 a4 w4 s1 s2 s3 s4 => ?_)
    obtain ⟨vb, e41, hb41⟩ := s1.2 41 _ h41
    cases hb41
    refine wpIn_cond_true (by simp [Act.eval, e41]) (wpIn_wide.2 (r10_any a4.tmps (by rw [s1.1]; exact Nat.eq_of_beq_eq_true hn5) _ w4 _ ?_))
    have hD := p4.trans s3 p3.size s4
    have X4 := p3.trans (S := ((doH h).next ≤ ·)) s3 (fun _ h => h) (fun m hm => Nat.le_trans p3.next hm)
    obtain ⟨bs, z5, z6, z7⟩ := hD
    show LeavesInM Fence.wide n Tryz.prog Tryz.f5 a4.tmps _ a4.defers (.panicking [{ v := .iface 38 (.agg #[.int .i64 370]), recovered := false }]) w4
    rw [z5]
    have hL := s3.le _ _ (p3.le _ _ q1)
    refine marks_then (fun e => by cases e) bs w4 s2 X4 z6 z7 fun w5 y1 y2 => leavesM_one (fun e => by cases e) (inv9 _ w5) ?_
    obtain ⟨u, hcu, hzu⟩ := cell_of_write y1 hL hw
    refine (do1_stop _ _ u 370 ⟨#[51, 55, 48]⟩ w5 (by decide) (y1.dom _ _ hL).2 hcu hzu (hit _ (y1.pin.kept (w' := w5.alloc (.cells #[.int .i64 370] 38)) (fun b hb => by
      show (w5.heap.push _)[b]? = _
      rw [Array.getElem?_push, if_neg (by omega)])).at_)).mono ?_
    rintro e u' w6 ⟨rfl, rfl, w7, hbw, rfl⟩
    have r7 := y1.below hbw
    obtain ⟨r8, x8⟩ := set_rel (fun _ => False) r7 hL hw (.str (⟨#[101, 114, 114, 111, 114, 32]⟩ ++ ⟨#[51, 55, 48]⟩) _ (by kernel_rfl)) rfl
    obtain ⟨v', g1, g2⟩ := run_results ht.toTabOk r8 s1 hvs
    refine ⟨v', g1, v', rfl, ρ4, g2, r8, ?_⟩
    exact X1.trans ((y2.below hbw).trans (S := ((doH h).next ≤ ·)) x8 (fun _ h => h) (fun _ h => h.elim)) (fun _ h => h) (fun m hm => by have : h.next + 1 ≤ m := hm; exact Nat.le_of_succ_le this)
  · cases hx
end Go.Eng

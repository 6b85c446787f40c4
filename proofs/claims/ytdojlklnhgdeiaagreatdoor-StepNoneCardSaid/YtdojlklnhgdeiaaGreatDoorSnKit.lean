/- A part of the proof of StepNone: the runs of the document's example and of the law's body, and facts of the row. Conditions: none. -/
import Derived.Test.YtdojlklnhgdeiaaGreatDoorInsertI
import Derived.Test.YtdojlklnhgdeiaaGreatDoorEngM
import Derived.Test.YtdojlklnhgdeiaaGreatDoorEngP
import Derived.Test.YtdojlklnhgdeiaaGreatDoorWalkB
import Derived.Test.YtdojlklnhgdeiaaGreatDoorWalkC
namespace Go.Eng
open Go Go.RowKit Go.Proofs
variable [Syms]
set_option maxRecDepth 1000000

variable {P : Program} {ρ : Ren} {h : EH} {w w' : World}

/-! The law's texts are hidden to the engine: what its inner functions tell of them is written out, case by case. -/

noncomputable def pathS (p1 p2 : Int) (args : List EV) (h : EH) : Option (EV × EH) :=
  match args with
  | [.sym 0] => some (.agg [.int .i64 p1, .any], h)
  | [.sym 1] => some (.agg [.int .i64 p2, .any], h)
  | _ => none

theorem sym_args {n : Nat} {v : Value} {args' : Array Value} (hv : Syms.val n = v) (ha : VRels ρ [.sym n] args'.toList) : args' = #[v] := by
  obtain ⟨al⟩ := args'
  cases ha with
  | cons _ v0 _ vs h0 hs =>
    cases hs
    cases h0 with
    | sym _ _ h1 _ => rw [hv] at h1; subst h1; rfl

theorem pathS_ok {H S : ByteArray} (hH : Syms.val 0 = .string H) (hS : Syms.val 1 = .string S) (lH : H.size ≤ 250) (lS : S.size ≤ 250) :
    IntrOk Tryz.prog 8 (pathS (pathD H).1 (pathD S).1) := by
  intro args h v h' hx ρ w args' hr ha
  unfold pathS at hx
  split at hx
  · cases hx
    rw [sym_args hH ha]
    refine .inl ⟨enter0 (show tb0.fn 8 = some Tryz.f8 by kernel_rfl) rfl _ _, fun nd => callsIn_wide.2 ((refpath_holds H w (by omega)).mono fun e w' hq => ?_)⟩
    obtain ⟨rfl, hbw⟩ := hq
    exact ⟨_, rfl, cpost_below hr hbw (.agg _ _ (.cons _ _ _ _ (.int _ _) (.cons _ _ _ _ (.any _ rfl) .nil)))⟩
  · cases hx
    rw [sym_args hS ha]
    refine .inl ⟨enter0 (show tb0.fn 8 = some Tryz.f8 by kernel_rfl) rfl _ _, fun nd => callsIn_wide.2 ((refpath_holds S w (by omega)).mono fun e w' hq => ?_)⟩
    obtain ⟨rfl, hbw⟩ := hq
    exact ⟨_, rfl, cpost_below hr hbw (.agg _ _ (.cons _ _ _ _ (.int _ _) (.cons _ _ _ _ (.any _ rfl) .nil)))⟩
  · cases hx

noncomputable def commitS (ck : Int) (args : List EV) (h : EH) : Option (EV × EH) :=
  match args with
  | [.agg [.int .u64 1, .nilSlice, .sym 2, .sym 6, .sym 3]] => some (.int .i64 ck, h)
  | _ => none

theorem commitS_ok {A T : ByteArray} {d : Int} (hA : Syms.val 2 = .string A) (hT : Syms.val 3 = .string T) (hd : Syms.val 6 = .int .i64 d) :
    IntrOk Tryz.prog 24 (commitS (commitD A T)) := by
  intro args h v h' hx ρ w args' hr ha
  unfold commitS at hx
  split at hx
  · cases hx
    obtain ⟨al⟩ := args'
    cases ha with
    | cons _ v0 _ vs hv hs =>
      cases hs
      cases hv with
      | agg _ cs hcs =>
        obtain ⟨cl⟩ := cs
        cases hcs with
        | cons _ x1 _ _ q1 r1 => cases r1 with
          | cons _ x2 _ _ q2 r2 => cases r2 with
            | cons _ x3 _ _ q3 r3 => cases r3 with
              | cons _ x4 _ _ q4 r4 => cases r4 with
                | cons _ x5 _ _ q5 r5 =>
                  cases r5
                  cases q1
                  cases q2
                  cases q4 with
                  | sym _ _ h4 _ => cases q3 with
                    | sym _ _ h3 _ => cases q5 with
                      | sym _ _ h5 _ =>
                        rw [hd] at h4
                        rw [hA] at h3
                        rw [hT] at h5
                        subst h3
                        subst h4
                        subst h5
                        refine .inl ⟨enter0 (show tb0.fn 24 = some Tryz.f24 by kernel_rfl) rfl _ _, fun nd => callsIn_wide.2 ((commit_any A T d w).mono fun e w' hq => ?_)⟩
                        obtain ⟨rfl, hbw⟩ := hq
                        exact ⟨_, rfl, cpost_below hr hbw (.int _ _)⟩
  · cases hx

noncomputable def namesS (nm : Int) (args : List EV) (h : EH) : Option (EV × EH) :=
  match args with
  | [.slice n off 2 _ 1] => match h.get n with
    | some (.cells c _ _) => match c.get off, c.get (off + 1) with
      | some (.sym 0), some (.sym 1) => some (.int .i64 nm, h)
      | _, _ => none
    | _ => none
  | _ => none

theorem namesS_ok {H S : ByteArray} (hH : Syms.val 0 = .string H) (hS : Syms.val 1 = .string S) (lH : H.size ≤ 250) (lS : S.size ≤ 250) :
    IntrOk Tryz.prog 43 (namesS (namesD H S)) := by
  intro args h v h' hx ρ w args' hr ha
  unfold namesS at hx
  split at hx
  rotate_left
  · cases hx
  rename_i n off cap
  split at hx
  rotate_left
  · cases hx
  rename_i c e vr hg
  split at hx
  rotate_left
  · cases hx
  rename_i ga gb
  cases hx
  obtain ⟨al⟩ := args'
  cases ha with
  | cons _ v0 _ vs hv hs =>
    cases hs
    cases hv with
    | slice _ _ _ _ _ L o C hL hl hcap ho =>
      obtain ⟨cc, fr, hrow⟩ := hr.row hg hL
      obtain ⟨va, ea, ra, _⟩ := hrow.cell off _ ga
      obtain ⟨vb, eb, rb, _⟩ := hrow.cell (off + 1) _ gb
      cases ra with
      | sym _ _ hsa _ => cases rb with
        | sym _ _ hsb _ =>
          rw [hH] at hsa
          rw [hS] at hsb
          subst hsa
          subst hsb
          have ho2 : o = L.sh + off := by rcases ho with h | h <;> omega
          subst ho2
          have hc0 : w.cell? ⟨L.b, L.sh + off, none⟩ = some (.string H) := by unfold World.cell?; rw [hrow.heap]; exact ea
          have hc1 : w.cell? ⟨L.b, L.sh + off + 1, none⟩ = some (.string S) := by unfold World.cell?; rw [hrow.heap]; exact eb
          refine .inl ⟨enter0 (show tb0.fn 43 = some Tryz.f43 by kernel_rfl) rfl _ _, fun nd => callsIn_wide.2 ((names_any H S L.b (L.sh + off) C w lH lS hc0 hc1 (hr.dom n L hL).2 hl).mono fun e w' hq => ?_)⟩
          obtain ⟨rfl, hbw⟩ := hq
          exact ⟨_, rfl, cpost_below hr hbw (.int _ _)⟩

noncomputable def eqsS (e0 e1 e01 : Bool) (n : Nat) (y : EV) : Option Bool :=
  match n, y with
  | 0, .str [] => some e0
  | 1, .str [] => some e1
  | 0, .sym 1 => some e01
  | _, _ => none

noncomputable def kitS (p1 p2 nm ck : Int) (f : FuncId) : Option (List EV → EH → Option (EV × EH)) :=
  cond (Nat.beq f 4) (some (constI true)) (cond (Nat.beq f 8) (some (pathS p1 p2)) (cond (Nat.beq f 43) (some (namesS nm)) (cond (Nat.beq f 24) (some (commitS ck)) (kitJ f))))
noncomputable def tbS (p1 p2 nm ck : Int) (e0 e1 e01 : Bool) : Tab := { withI (kitS p1 p2 nm ck) with eqs := eqsS e0 e1 e01 }
end Go.Eng

namespace Go.Eng
open Go
set_option maxRecDepth 1000000
/-- The state ahead of the law's texts being cut. -/
noncomputable def litA : List (Nat × EO) := [(1024, (.cells (.node (.node (.node .leaf (some (.sym 6)) .leaf) (some (.sym 8)) .leaf) (some (.sym 7)) (.node (.node .leaf (some (.sym 3)) .leaf) (some (.sym 2)) .leaf)) 26 true)),
  (1288, (.map [((.str []), (.int .i64 (.ofNat 0)), 0)] 1)),
  (1290, (.cells (.node (.node .leaf (some (.map 1288)) .leaf) (some (.slice 1342 0 1 none 3)) .leaf) 192 true)),
  (1342, (.cells (.node (.node .leaf (some .nilSlice) .leaf) (some .nilSlice) (.node .leaf (some (.bool false)) .leaf)) 97 false)),
  (1452, (.map [] 0)),
  (1454, (.cells (.node (.node (.node .leaf (some (.bool false)) .leaf) (some (.int .i64 (.ofNat 0))) .leaf) (some (.map 1452)) (.node .leaf (some (.int .i64 (.ofNat 0))) .leaf)) 113 true)),
  (1507, (.cells (.node (.node (.node .leaf (some .nilSlice) .leaf) (some (.str [111, 98, 106, 101, 99, 116, 115])) (.node .leaf (some (.bool false)) .leaf)) (some (.ptr 1454 0)) (.node (.node .leaf (some (.int .i64 (.ofNat 0))) .leaf) (some .nilSlice) .leaf)) 229 true)),
  (1554, (.map [] 0)),
  (1556, (.cells (.node (.node .leaf (some (.map 1554)) .leaf) (some (.ptr 1507 0)) (.node .leaf (some .nilSlice) .leaf)) 181 true)),
  (1641, (.cells (.node (.node (.node .leaf (some .nilSlice) .leaf) (some (.str [114, 101, 102, 115])) (.node .leaf (some (.bool false)) .leaf)) (some (.ptr 1454 0)) (.node (.node .leaf (some (.int .i64 (.ofNat 0))) .leaf) (some .nilSlice) .leaf)) 229 true)),
  (1687, (.map [] 0)),
  (1690, (.cells (.node (.node .leaf (some (.ptr 1641 0)) .leaf) (some (.map 1687)) .leaf) 134 true)),
  (1728, (.cells (.node (.node .leaf (some (.ptr 1556 0)) .leaf) (some (.ptr 1454 0)) (.node .leaf (some (.ptr 1690 0)) .leaf)) 110 true)),
  (1741, (.cells (.node (.node .leaf (some (.ptr 1290 0)) .leaf) (some (.ptr 1728 0)) .leaf) 42 true))]
noncomputable def frmA : List (Nat × EV) := [(0, (.sym 4)), (1, (.sym 5)), (5, (.ptr 1024 0)), (7, (.ptr 1741 0))]
noncomputable def frmB : List (Nat × EV) := [(0, (.sym 0)), (1, (.sym 1)), (5, (.ptr 1024 0)), (7, (.ptr 1741 0))]
end Go.Eng

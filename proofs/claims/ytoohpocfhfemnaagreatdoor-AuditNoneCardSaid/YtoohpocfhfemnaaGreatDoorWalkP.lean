/- A part of the proof of AuditNone: the runs of the document's example and of the law's body, and facts of the row. Conditions: none. -/
import Derived.Test.YtoohpocfhfemnaaGreatDoorWalkL
import Derived.Test.YtoohpocfhfemnaaGreatDoorRunA
import Derived.Test.YtoohpocfhfemnaaGreatDoorEngD
namespace Go.Proofs
open Go.Shelf Go.RowKit Go.Lib Go.Eng
variable {I S : Nat → Prop}
set_option maxRecDepth 1000000

/-- The one unknown value. -/
@[reducible] def sy (v : Value) : Syms := { val := fun _ => v }
abbrev rulesS : ByteArray := ⟨#[114, 117, 108, 101, 115, 45]⟩
abbrev memoS : ByteArray := ⟨#[109, 101, 109, 111, 45]⟩
theorem ofb_objS : ofBytes objS = oStr := rfl

theorem may_obj (w : World) : Calls Tryz.prog 17 #[.string objS] w fun e w' => e = .returned (.bool true) ∧ Below w.heap.size w w' := by
  letI := sy undef
  refine (closed_out ok0 (show tb0.fn 17 = some Tryz.f17 by kernel_rfl) rfl runMay (args' := #[.string objS]) (.cons _ _ _ _ (.str _ _ rfl) .nil) (by decide) w (fun _ _ h => by cases h)).mono ?_
  rintro e w' ⟨v', rfl, ⟨ρ', hv⟩, hb⟩
  cases hv
  exact ⟨rfl, hb⟩
theorem wakes_true (w : World) : Calls Tryz.prog 4 #[] w fun e w' => e = .returned (.bool true) ∧ Below w.heap.size w w' := by
  letI := sy undef
  refine (closed_out ok0 (show tb0.fn 4 = some Tryz.f4 by kernel_rfl) rfl runWk (args' := #[]) .nil (by decide) w (fun _ _ h => by cases h)).mono ?_
  rintro e w' ⟨v', rfl, ⟨ρ', hv⟩, hb⟩
  cases hv
  exact ⟨rfl, hb⟩
theorem ofb_inj {s : ByteArray} (h : ofBytes s = oStr) : s = objS := by
  obtain ⟨⟨l⟩⟩ := s
  simp only [ofBytes] at h
  have h' : l.map (fun x => x.toNat) = [(111 : UInt8), 98, 106, 101, 99, 116, 115].map (fun x => x.toNat) := h
  rw [(List.map_inj_right (fun x y hxy => UInt8.toNat_inj.1 hxy)).1 h']
theorem cut_rules (w : World) : Calls Tryz.prog 66 #[.string objS, .string rulesS] w fun e w' => e = .returned (.tuple #[.string objS, .bool false]) ∧ Below w.heap.size w w' := by
  letI := sy undef
  refine (closed_out ok0 (show tb0.fn 66 = some Tryz.f66 by kernel_rfl) rfl runCut1 (args' := #[.string objS, .string rulesS]) (.cons _ _ _ _ (.str _ _ rfl) (.cons _ _ _ _ (.str _ _ rfl) .nil)) (by decide) w (fun _ _ h => by cases h)).mono ?_
  rintro e w' ⟨v', rfl, ⟨ρ', hv⟩, hb⟩
  refine ⟨?_, hb⟩
  cases hv with
  | tuple cs cs' hl =>
    obtain ⟨l⟩ := cs'
    cases hl with
    | cons _ v _ vs h hs => cases h with
      | str s _ hb => cases hs with
        | cons _ v _ vs h hs =>
          cases h
          cases hs
          rw [ofb_inj hb]
theorem cut_memo (w : World) : Calls Tryz.prog 66 #[.string objS, .string memoS] w fun e w' => e = .returned (.tuple #[.string objS, .bool false]) ∧ Below w.heap.size w w' := by
  letI := sy undef
  refine (closed_out ok0 (show tb0.fn 66 = some Tryz.f66 by kernel_rfl) rfl runCut2 (args' := #[.string objS, .string memoS]) (.cons _ _ _ _ (.str _ _ rfl) (.cons _ _ _ _ (.str _ _ rfl) .nil)) (by decide) w (fun _ _ h => by cases h)).mono ?_
  rintro e w' ⟨v', rfl, ⟨ρ', hv⟩, hb⟩
  refine ⟨?_, hb⟩
  cases hv with
  | tuple cs cs' hl =>
    obtain ⟨l⟩ := cs'
    cases hl with
    | cons _ v _ vs h hs => cases h with
      | str s _ hb => cases hs with
        | cons _ v _ vs h hs =>
          cases h
          cases hs
          rw [ofb_inj hb]

set_option maxHeartbeats 4000000 in
theorem unhex_obj (w : World) : Calls Tryz.prog 67 #[.string objS] w fun e w' => e = .returned (.tuple #[.int .u64 0, .int .i64 8]) ∧ w' = w := by
  go_enter Tryz.func67, Tryz.ntmps67
  go_wp2_with (fail)
  go_ret2
  exact ⟨rfl, rfl⟩
end Go.Proofs

namespace Go.Proofs
open Go.Shelf Go.RowKit Go.Lib Go.Eng
variable {I S : Nat → Prop}
set_option maxRecDepth 1000000

/-- Two names: a map, and the cell that holds it. -/
def ren2 (m b : Nat) : Eng.Ren := fun n => if n = 1 then some ⟨m, 0, 0⟩ else if n = 2 then some ⟨b, 0, 1⟩ else none
theorem rel2 [Syms] {m b : Nat} {w : World} {ty k : Nat} {les : List (EV × EV × Nat)} {es : Array MapEntry} (hp : ∀ n, Syms.pin n = none) (hm : w.heap[m]? = some (.map es k)) (hes : MRel (ren2 m b) les es.toList) (hb : w.heap[b]? = some (.cells #[.map (some m)] ty)) :
    Rel Tryz.prog (ren2 m b) ⟨litH [(1, .map les k), (2, .cells (T.node .leaf (some (.map 1)) .leaf) ty false)], 1024⟩ w := by
  have hmb : m ≠ b := by rintro rfl; rw [hm] at hb; cases hb
  have hlm : m < w.heap.size := (Array.getElem?_eq_some_iff.1 hm).1
  have hlb : b < w.heap.size := (Array.getElem?_eq_some_iff.1 hb).1
  have hmem : ∀ n o, (EH.mk (litH [(1, EO.map les k), (2, .cells (T.node .leaf (some (.map 1)) .leaf) ty false)]) 1024).get n = some o → (n = 1 ∧ o = .map les k) ∨ (n = 2 ∧ o = .cells (T.node .leaf (some (.map 1)) .leaf) ty false) := fun n o h => by
    have := litH_get (show (litH [(1, EO.map les k), (2, .cells (T.node .leaf (some (.map 1)) .leaf) ty false)]).get n = some o from h)
    simpa using this
  have h1 : ren2 m b 1 = some ⟨m, 0, 0⟩ := rfl
  have h2 : ren2 m b 2 = some ⟨b, 0, 1⟩ := rfl
  refine ⟨fun n o L hn hL => ?_, fun n n' o o' L L' hn hn' hL hL' e => ?_, fun n L hL => ?_, fun n o hn => ?_, ⟨fun b x e => (by rw [hp] at e; cases e), fun n L _ => hp _⟩⟩
  · rcases hmem n o hn with ⟨rfl, rfl⟩ | ⟨rfl, rfl⟩
    · rw [h1] at hL; cases hL
      exact ⟨es, hm, hes⟩
    · rw [h2] at hL; cases hL
      refine ⟨#[.map (some m)], (0, 0), hb, rfl, (fun h => by cases h), .inl rfl, fun j ev hj => ?_⟩
      rw [T.get_node] at hj
      by_cases h0 : j = 0
      · subst h0
        simp only [if_true] at hj
        cases hj
        exact ⟨_, rfl, .map 1 ⟨m, 0, 0⟩ h1, rfl⟩
      · rw [if_neg h0] at hj
        split at hj <;> cases hj
  · rcases hmem n o hn with ⟨rfl, rfl⟩ | ⟨rfl, rfl⟩ <;> rcases hmem n' o' hn' with ⟨rfl, rfl⟩ | ⟨rfl, rfl⟩
    · rfl
    · rw [h1] at hL; rw [h2] at hL'; cases hL; cases hL'; exact absurd e hmb
    · rw [h2] at hL; rw [h1] at hL'; cases hL; cases hL'; exact absurd e.symm hmb
    · rfl
  · unfold ren2 at hL
    by_cases e1 : n = 1
    · subst e1; simp at hL; subst hL; exact ⟨by show (1 : Nat) < 1024; omega, hlm⟩
    · by_cases e2 : n = 2
      · subst e2; simp at hL; subst hL; exact ⟨by show (2 : Nat) < 1024; omega, hlb⟩
      · simp [e1, e2] at hL
  · rcases hmem n o hn with ⟨rfl, rfl⟩ | ⟨rfl, rfl⟩ <;> (show _ < 1024; omega)

theorem turn_of_ext [Syms] {m b : Nat} {w w' : World} {ty k : Nat} {les : List (EV × EV × Nat)} {ρ' : Eng.Ren} {h' : EH} {S' : Nat → Prop}
    (hx : Extd S' (ren2 m b) ⟨litH [(1, .map les k), (2, .cells (T.node .leaf (some (.map 1)) .leaf) ty false)], 1024⟩ w ρ' h' w') (hk : w'.heap[m]? = w.heap[m]?) : Turn (fun x => x = b) w w' :=
  ⟨hx.os, hx.tape, hx.output, hx.size, fun x hlt hx' => by
    by_cases e : x = m
    · rw [e]; exact hk
    · refine hx.kept x hlt fun n o L hn hL e2 => ?_
      have hr : ren2 m b n = some L := hL
      unfold ren2 at hr
      by_cases e1 : n = 1
      · subst e1; simp at hr; subst hr; exact e e2.symm
      · by_cases e3 : n = 2
        · subst e3; simp at hr; subst hr; exact hx' e2.symm
        · simp [e1, e3] at hr⟩

theorem okOne_spec {rs : List ResultVar} {l : List Nat} {lout : List (Nat × EO)} {kout : Nat} {x : XR} (h : okOne tb0 rs l lout kout x = true) :
    ∃ f h1 n off cap es l', x = .ret f h1 ∧ resE tb0 f h1 rs = some [.slice n off 1 cap es] ∧ h1.cell n off = some (.str l') ∧ strEq l l' = true ∧ subL lout kout h1 = true := by
  unfold okOne at h
  split at h
  · rename_i f h1
    split at h
    · rename_i n off len cap es hres
      simp only [Bool.and_eq_true] at h
      obtain ⟨⟨⟨h2, h3⟩, h4⟩, h5⟩ := h
      split at h3
      · rename_i l' hc
        exact ⟨f, h1, n, off, cap, es, l', rfl, by rw [hres, Nat.eq_of_beq_eq_true h2], hc, h3, h4⟩
      · cases h3
    · cases h
  · cases h
theorem strEq_eq : ∀ {a b : List Nat}, strEq a b = true → a = b
  | [], [], _ => rfl
  | a :: x, b :: y, h => by
    simp only [strEq, Bool.and_eq_true] at h
    rw [Nat.eq_of_beq_eq_true h.1, strEq_eq h.2]
  | [], _ :: _, h => by cases h
  | _ :: _, [], h => by cases h

/-- A map's one key, in order. -/
theorem sorted_one {m b : Nat} {v0 : Value} {w : World} (hm : Files w m (some v0)) (h1 : v0.oneCell' = true) (hb : w.heap[b]? = some (.cells #[.map (some m)] 57)) :
    Calls Tryz.prog 93 #[.func (.func 132) #[] #[.pointer (some ⟨b, 0, none⟩)]] w fun e w' => ∃ g o c, e = .returned (.slice (some ⟨g, o, none⟩) 1 c) ∧ w'.cell? ⟨g, o, none⟩ = some (.string objS) ∧ Turn (fun x => x = b) w w' := by
  letI := sy v0
  have hr := run93
  rw [execF_eq] at hr
  obtain ⟨f, h2, n, off, cap, es, l', hx, hv, hc, hl, hs⟩ := okOne_spec hr
  have hl := strEq_eq hl
  subst hl
  have hrel := rel2 (les := [(.str oStr, .sym 0, 0)]) (k := 1) (ty := 57) (b := b) (fun _ => rfl) hm ⟨.str _ _ rfl, .sym 0 v0 rfl h1, rfl, trivial⟩ hb
  have hcall := calls_sound1 (g := 93) (args' := #[.func (.func 132) #[] #[.pointer (some ⟨b, 0, none⟩)]]) ok0 (show tb0.fn 93 = some Tryz.f93 by kernel_rfl) rfl (sound1_exec ok0 hx (fun e => by cases e)) hv hrel
    (initFr_rel (.cons _ _ _ _ (.func _ _ _ #[] #[.pointer (some ⟨b, 0, none⟩)] (fun l e => by cases e) .nil (.cons _ _ _ _ (.ptr 2 0 ⟨b, 0, 1⟩ rfl) .nil)) .nil) (by decide)) 0
  refine (callsIn_wide.1 hcall).mono ?_
  rintro e w' ⟨v', rfl, ρ', hv', hr', hxt⟩
  have hm1 : h2.get 1 = some (.map [(.str oStr, .sym 0, 0)] 1) := (subL_mem hs (List.mem_singleton.2 rfl)).1
  have hρ1 : ρ' 1 = some ⟨m, 0, 0⟩ := hxt.le 1 _ rfl
  obtain ⟨es', he1, he2⟩ := hr'.live 1 _ _ hm1 hρ1
  have hmk : w'.heap[m]? = w.heap[m]? := by
    refine Eq.trans ?_ (Eq.symm hm)
    refine he1.trans ?_
    obtain ⟨les⟩ := es'
    have he2 : MRel ρ' [(EV.str oStr, .sym 0, 0)] les := he2
    cases les with
    | nil => exact he2.elim
    | cons x xs =>
      obtain ⟨q1, q2, q3, q4⟩ := he2
      cases xs with
      | cons _ _ => exact q4.elim
      | nil =>
        obtain ⟨ke, va, bo⟩ := x
        simp only at q1 q2 q3
        cases q1 with
        | str s _ hs => cases q2 with
          | sym _ _ hv1 h1 =>
            have : va = v0 := hv1.symm
            rw [ofb_inj hs, this, ← q3]
            rfl
  have hT := turn_of_ext (les := [(.str oStr, .sym 0, 0)]) (k := 1) (ty := 57) hxt hmk
  change VRel ρ' (.slice n off 1 cap es) v' at hv'
  cases hv' with
  | slice _ _ _ _ _ L o c hL hle hcap ho =>
    refine ⟨L.b, o, c, rfl, ?_, hT⟩
    unfold EH.cell at hc
    split at hc
    · rename_i cs el vr hg
      obtain ⟨arr, fr, q1, q2, q3, q4, q5⟩ := hr'.live n _ _ hg hL
      obtain ⟨u, q6, q7, q8⟩ := q5 off _ hc
      have ho' : o = L.sh + off := by
        rcases ho with h0 | ⟨h0, _⟩
        · omega
        · exact h0
      rw [ho']
      have : w'.cell? ⟨L.b, L.sh + off, none⟩ = some u := by unfold World.cell?; rw [q1]; exact q6
      rw [this]
      cases q7 with
      | str s _ hs => rw [ofb_inj hs]
    · cases hc
end Go.Proofs

namespace Go.Proofs
open Go.Shelf Go.RowKit Go.Lib Go.Eng
variable {I S : Nat → Prop}
set_option maxRecDepth 1000000

/-- The keys of a map that holds none. -/
theorem sorted_none {m b : Nat} {w : World} (hm : w.heap[m]? = some (.map #[] 0)) (hb : w.heap[b]? = some (.cells #[.map (some m)] 89)) :
    Calls Tryz.prog 93 #[.func (.func 157) #[] #[.pointer (some ⟨b, 0, none⟩)]] w fun e w' => e = .returned (.slice none 0 0) ∧ Turn (fun x => x = b) w w' := by
  letI := sy undef
  have hr := run93e
  rw [execF_eq] at hr
  obtain ⟨f, h2, vs, hx, hv, hvs, hs⟩ := okEnd_spec hr
  have hrel := rel2 (les := []) (k := 0) (ty := 89) (b := b) (fun _ => rfl) hm trivial hb
  have hcall := calls_sound1 (g := 93) (args' := #[.func (.func 157) #[] #[.pointer (some ⟨b, 0, none⟩)]]) ok0 (show tb0.fn 93 = some Tryz.f93 by kernel_rfl) rfl (sound1_exec ok0 hx (fun e => by cases e)) hv hrel
    (initFr_rel (.cons _ _ _ _ (.func _ _ _ #[] #[.pointer (some ⟨b, 0, none⟩)] (fun l e => by cases e) .nil (.cons _ _ _ _ (.ptr 2 0 ⟨b, 0, 1⟩ rfl) .nil)) .nil) (by decide)) 0
  refine (callsIn_wide.1 hcall).mono ?_
  rintro e w' ⟨v', rfl, ρ', hv', hr', hxt⟩
  have hm1 : h2.get 1 = some (.map [] 0) := hs.1 1 _ (by kernel_rfl)
  have hρ1 : ρ' 1 = some ⟨m, 0, 0⟩ := hxt.le 1 _ rfl
  obtain ⟨es', he1, he2⟩ := hr'.live 1 _ _ hm1 hρ1
  have hmk : w'.heap[m]? = w.heap[m]? := by
    refine Eq.trans ?_ (Eq.symm hm)
    refine he1.trans ?_
    obtain ⟨les⟩ := es'
    have he2 : MRel ρ' [] les := he2
    cases les with
    | nil => rfl
    | cons x xs => exact he2.elim
  rw [hvs] at hv'
  cases hv'
  exact ⟨rfl, turn_of_ext (les := []) (k := 0) (ty := 89) hxt hmk⟩

set_option maxHeartbeats 4000000 in
theorem keys94 (m : Nat) (w : World) : Calls Tryz.prog 94 #[.map (some m)] w fun e w' => e = .returned (.func (.func 132) #[] #[.pointer (some ⟨w.heap.size, 0, none⟩)]) ∧ w' = w.alloc (.cells #[.map (some m)] 57) := by
  go_enter Tryz.func94, Tryz.ntmps94
  go_wp2_with (fail)
  go_ret
  exact ⟨rfl, rfl⟩
set_option maxHeartbeats 4000000 in
theorem keys110 (m : Nat) (w : World) : Calls Tryz.prog 110 #[.map (some m)] w fun e w' => e = .returned (.func (.func 157) #[] #[.pointer (some ⟨w.heap.size, 0, none⟩)]) ∧ w' = w.alloc (.cells #[.map (some m)] 89) := by
  go_enter Tryz.func110, Tryz.ntmps110
  go_wp2_with (fail)
  go_ret
  exact ⟨rfl, rfl⟩

set_option maxHeartbeats 4000000 in
theorem names_any (d m : Nat) (cnt : Int) (v0 : Value) (w : World) (h : DiskAt w d m (some v0) cnt) (h1 : v0.oneCell' = true) :
    Calls Tryz.prog 65 #[.pointer (some ⟨d, 0, none⟩)] w fun e w' => ∃ g o c, e = .returned (.slice (some ⟨g, o, none⟩) 1 c) ∧ w'.cell? ⟨g, o, none⟩ = some (.string objS) ∧ Turn (fun _ => False) w w' := by
  have c0 := h.c0
  have H := Hid.mk' h
  clear h
  go_enter Tryz.func65, Tryz.ntmps65
  go_wp2_with (fail)
  refine (keys94 m w).mono ?_
  rintro e w1 ⟨rfl, rfl⟩
  go_wp2_with (fail)
  have hf : Files (w.alloc (Obj.cells #[Value.map (some m)] 57)) m (some v0) := H.out.fs.turn (S := fun _ => False) ((Turn.refl _ _).alloc _) id
  refine (sorted_one hf h1 (World.alloc_last w _)).mono ?_
  rintro e w2 ⟨g, o, c, rfl, hc, hT⟩
  go_wp2_with (fail)
  go_ret
  refine ⟨g, o, c, rfl, hc, ?_⟩
  exact (((Turn.refl (fun x => x = w.heap.size) w).alloc _).trans hT).mono (fun k hk e => by omega)
end Go.Proofs

namespace Go.Proofs
open Go.Shelf Go.RowKit Go.Lib Go.Eng
variable {I S : Nat → Prop}
attribute [local go_sem] Oper.semAt_some
set_option maxRecDepth 1000000

set_option maxHeartbeats 8000000 in
theorem keys_any (d m : Nat) (cnt : Int) (v0 : Value) (w : World) (h : DiskAt w d m (some v0) cnt) (h1 : v0.oneCell' = true) :
    Calls Tryz.prog 39 #[.pointer (some ⟨d, 0, none⟩)] w fun e w' => e = .returned (.slice none 0 0) ∧ Turn (fun _ => False) w w' := by
  go_enter Tryz.func39, Tryz.ntmps39
  go_wp2_with (fail)
  refine (names_any d m cnt v0 w h h1).mono ?_
  rintro e w1 ⟨g, o, c, rfl, hc, hT⟩
  clear h h1
  go_wp2_with (fail)
  have hlt : g < w1.heap.size := World.block_lt_of_cell? _ ⟨g, o, none⟩ hc
  go_loopw [3, 13] (fun s i wr => ∃ k : Nat, i = .int .i64 (k : Int) ∧ s = .slice none 0 0 ∧ k ≤ 1 ∧ wr.cell? ⟨g, o, none⟩ = some (.string objS) ∧ Turn (fun _ => False) w wr) (fun _ i _ => 1 - (RowKit.intOf i).toNat)
  case atStart => exact ⟨0, rfl, rfl, by omega, hc, hT⟩
  case round =>
    clear hc hT hlt
    obtain ⟨k, rfl, rfl, hk, hc, hT⟩ := hrel
    by_cases hlt : k < 1
    · obtain rfl : k = 0 := by omega
      go_wp2_with (fail)
      refine (cut_memo wr).mono ?_
      rintro e w2 ⟨rfl, hbl⟩
      have hT2 := hT.trans (Turn.below (S := fun _ => False) hbl (fun k h1 h2 => by omega))
      have hc2 := (hbl.cell (p := ⟨g, o, none⟩) (World.block_lt_of_cell? _ ⟨g, o, none⟩ hc)).trans hc
      clear hc hT hbl
      go_wp2_with (fail)
      exact ⟨⟨1, rfl, rfl, by omega, hc2, hT2⟩, by simp [RowKit.intOf]⟩
    · obtain rfl : k = 1 := by omega
      go_wp2_with (fail)
      go_ret
      exact ⟨rfl, hT⟩
end Go.Proofs

namespace Go.Proofs
open Go.Shelf Go.RowKit Go.Lib
variable {I S : Nat → Prop}
set_option maxRecDepth 1000000

theorem range_run {w : World} {m : Nat} {v : Value} (h : Files w m (some v)) : (Instr.range 57 (.map (some m))).run Tryz.prog w = .ok (.pointer (some ⟨w.heap.size, 0, none⟩)) (w.alloc (.mapIter (some m) 1 #[] 1)) := by
  unfold Instr.range
  simp only [Sem.run_bind, run_underlying u57, Result.andThen_ok, Eng.run_getMap h, Sem.run_pure, run_newObj]
  rfl
theorem next_run {w : World} {m i : Nat} {v : Value} (h : Files w m (some v)) (hi : w.heap[i]? = some (.mapIter (some m) 1 #[] 1)) (ty : TypeId) : (Instr.next (.pointer (some ⟨i, 0, none⟩)) false ty).run Tryz.prog w = .ok (.tuple #[.bool true, .string objS, v]) { w with heap := w.heap.setIfInBounds i (.mapIter (some m) 1 #[0] 1) } := by
  have hm : w.heap[m]? = some (.map #[⟨.string objS, v, 0⟩] 1) := h
  unfold Instr.next
  simp only [Sem.run_bind, Eng.run_getObj hi (fun _ _ _ e => by cases e), Result.andThen_ok, Eng.run_getMap hm, Sem.run_ite]
  simp [Question.forced, Eng.run_setObj hi (fun _ _ _ e => by cases e)]
theorem next_done {w : World} {m i : Nat} {v : Value} (h : Files w m (some v)) (hi : w.heap[i]? = some (.mapIter (some m) 1 #[0] 1)) (ty : TypeId) : (Instr.next (.pointer (some ⟨i, 0, none⟩)) false ty).run Tryz.prog w = .ok (.tuple #[.bool false]) w := by
  have hm : w.heap[m]? = some (.map #[⟨.string objS, v, 0⟩] 1) := h
  unfold Instr.next
  simp only [Sem.run_bind, Eng.run_getObj hi (fun _ _ _ e => by cases e), Result.andThen_ok, Eng.run_getMap hm, Sem.run_ite]
  simp [Question.forced]
theorem entry_run {w : World} {m i : Nat} {v : Value} (h : Files w m (some v)) (hi : w.heap[i]? = some (.mapIter (some m) 1 #[0] 1)) : (Instr.entry (.pointer (some ⟨i, 0, none⟩))).run Tryz.prog w = .ok (.tuple #[.string objS, v]) w := by
  have hm : w.heap[m]? = some (.map #[⟨.string objS, v, 0⟩] 1) := h
  unfold Instr.entry
  simp only [Sem.run_bind, Eng.run_getObj hi (fun _ _ _ e => by cases e), Result.andThen_ok]
  simp [Eng.run_getMap hm]
end Go.Proofs

/- A part of the proof of SplitNone: the run of the document's example. Conditions: none. -/
import Derived.Test.YtkmkkgmkmhaekaaGreatDoorSeatOk
import Derived.Test.YtkmkkgmkmhaekaaGreatDoorEngL
import Derived.Test.YtkmkkgmkmhaekaaGreatDoorWakesA
import Derived.Test.YtkmkkgmkmhaekaaGreatDoorWakesB
namespace Go.Eng
open Go

theorem okRet_spec {t : Nat} {b : Bool} {x : XR} (h : okRet t b x = true) : ∃ f hh, x = .ret f hh ∧ f.get t = some (.bool b) := by
  cases x with
  | ret f hh =>
    have h' : (Option.rec false (fun e => EV.eqb (.bool b) e) (Fr.getF f t) : Bool) = true := h
    rw [Fr.getF_eq] at h'
    cases hg : f.get t with
    | none => rw [hg] at h'; cases h'
    | some e => rw [hg] at h'; exact ⟨f, hh, rfl, by rw [hg, EV.eqb_eq _ _ h']⟩
  | _ => cases h

theorem wakes_sound : ∃ f hh, Sound1 Go.Proofs.Tryz.prog false (bodyOf Go.Proofs.Tryz.f4) (initFr 78 []) ⟨.leaf, 1024⟩ (.ret f hh) ∧ f.get 0 = some (.bool true) := by
  have hA := runA
  rw [execF_eq] at hA
  obtain ⟨f1, h1, e1, s1, s2⟩ := okNormal_sub hA
  have hB := runB
  rw [execF_eq] at hB
  obtain ⟨f2, h2, e2, g2⟩ := okRet_spec hB
  refine ⟨f2, h2, ?_, g2⟩
  show Sound1 Go.Proofs.Tryz.prog false (.seq (Code.at [false] (bodyOf Go.Proofs.Tryz.f4)) (.seq (Code.at [true, false] (bodyOf Go.Proofs.Tryz.f4)) (Code.at [true, true] (bodyOf Go.Proofs.Tryz.f4)))) _ _ _
  refine sound1_seq (f1 := (initFr 78 []).wth 0 (.bool false)) (h1 := ⟨.leaf, 1025⟩) (fL := initFr 78 []) (hL := ⟨.leaf, 1025⟩) (sound1_exec ok1 (N := 5) ?_ (fun e => by cases e)) ⟨fun n o e => e, Nat.le_refl _, fun n o e => by cases e⟩ ⟨rfl, fun t e he => by cases he⟩ ?_
  · apply x_region
    apply r_val
    · exact (by omega : 0 < 78)
    · simp only [op_assign, ev_const, conv_bool, Option.map_some] <;> rfl
    exact r_nil
  · exact sound1_seq (sound1_exec ok1 e1 (fun e => by cases e)) s1 s2 (sound1_exec ok1 e2 (fun e => by cases e))

/-- wakes() is true, in every world, and turns nothing that was. -/
theorem wakes_call {ρ : Ren} {h : EH} {w : World} {args' : Array Value} (hr : Rel Go.Proofs.Tryz.prog ρ h w) (ha : VRels ρ [] args'.toList) : CallOk Go.Proofs.Tryz.prog 4 args' w (CPost Go.Proofs.Tryz.prog ρ h w (.bool true) h) := by
  obtain ⟨f, hh, hs, hg⟩ := wakes_sound
  have hz : args' = #[] := by
    generalize hl : args'.toList = l at ha
    cases ha
    exact Array.toList_eq_nil_iff.1 hl
  subst hz
  have hc := call_sound1 (ρ := Ren.none) (w := w) (args' := #[]) ok1 (g := 4) (fn := Go.Proofs.Tryz.f4) (c := bodyOf Go.Proofs.Tryz.f4) (vs := [.bool true]) (by kernel_rfl) rfl hs (res_one hg) (Rel.nothing 1024 w) (initFr_rel .nil (Nat.zero_le _))
  exact hc.mono fun v' w' hq => closed_post hr (fun ρ1 u hu => by cases hu; exact .bool _) hq

/-- wakes as an intrinsic. -/
noncomputable def wakesI (args : List EV) (h : EH) : Option (EV × EH) := List.rec (some (.bool true, h)) (fun _ _ _ => none) args
noncomputable def tb2 : Tab := { tb1 with intr := fun f => Bool.rec (Bool.rec none (some meetsI) (Nat.beq f 23)) (some wakesI) (Nat.beq f 4) }

theorem ok2 : FnOk Go.Proofs.Tryz.prog tb2 where
  toTabOk := { und := tab0.und, inf := tab0.inf, fn := tab0.fn, eqst := tab0.eqst }
  enter := ok0.enter
  ext := ok0.ext
  intr g r h := by
    have h' : (Bool.rec (Bool.rec none (some meetsI) (Nat.beq g 23)) (some wakesI) (Nat.beq g 4) : Option (List EV → EH → Option (EV × EH))) = some r := h
    cases hb : Nat.beq g 4 with
    | false => rw [hb] at h'; exact ok1.intr g r h'
    | true =>
      rw [hb] at h'
      cases h'
      obtain rfl := Nat.eq_of_beq_eq_true hb
      intro args h v h' he ρ w args' hr ha
      cases args with
      | nil => cases he; exact wakes_call hr ha
      | cons _ _ => cases he
  mixed := mixed0
end Go.Eng

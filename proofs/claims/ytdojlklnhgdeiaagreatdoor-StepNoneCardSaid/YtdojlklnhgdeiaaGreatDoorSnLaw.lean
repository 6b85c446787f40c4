/- A part of the proof of StepNone: the runs of the document's example and of the law's body, and facts of the row. Conditions: none. -/
import Derived.Test.YtdojlklnhgdeiaaGreatDoorSnCases
import Derived.Test.YtdojlklnhgdeiaaGreatDoorSnA
import Derived.Test.YtdojlklnhgdeiaaGreatDoorSnOk
namespace Go.Eng
open Go Go.RowKit Go.Proofs
set_option maxRecDepth 1000000

theorem cut_bytes (s : ByteArray) : ofBytes (s.extract 0 250) = (ofBytes s).take 250 ∧ (s.extract 0 250).size ≤ 250 := by
  constructor
  · unfold ofBytes
    rw [ByteArray.data_extract, Array.toList_extract, ← List.map_take]
    rfl
  · rw [ByteArray.size_extract]; omega

section laws
variable [Syms]

theorem okA : FnOk Tryz.prog (withI kitA) := okI fun g r h => by
  rcases okOpt h with ⟨b, e⟩ | ⟨_, e⟩
  · cases e
    obtain rfl := Nat.eq_of_beq_eq_true b
    exact wakesC_ok
  · exact okJ.intr g r e

theorem law_ret {H0 S0 A T : ByteArray} {d : Int} (v0 : Syms.val 0 = .string (H0.extract 0 250)) (v1 : Syms.val 1 = .string (S0.extract 0 250)) (v2 : Syms.val 2 = .string A) (v3 : Syms.val 3 = .string T)
    (v4 : Syms.val 4 = .string H0) (v5 : Syms.val 5 = .string S0) (v6 : Syms.val 6 = .int .i64 d) :
    ∃ f hh, Sound1 Tryz.prog false lawB f0A ⟨.leaf, 1024⟩ (.ret f hh) ∧ f.get 6 = some (.bool true) := by
  have hB := goB_all (H0.extract 0 250) (S0.extract 0 250) A T
  unfold goB at hB
  rw [execF_eq] at hB
  obtain ⟨f1, h1, e1, g1⟩ := okRet_spec hB
  have sB : Sound1 Tryz.prog false (tail 5 lawB) ⟨190, litF frmB⟩ ⟨litH litA, 1758⟩ (.ret f1 h1) := sound1_exec (okS v0 v1 v2 v3 v6 (cut_bytes H0).2 (cut_bytes S0).2) e1 (fun e => by cases e)
  have sT : Sound1 Tryz.prog false (tail 4 lawB) ⟨190, litF frmA⟩ ⟨litH litA, 1746⟩ (.ret f1 h1) := by
    rw [r6_eq]
    intro ro n ρ ac w hfr hr hl
    have a0 : (⟨190, litF frmA⟩ : Fr).get 0 = some (.sym 4) := by kernel_rfl
    have a1 : (⟨190, litF frmA⟩ : Fr).get 1 = some (.sym 5) := by kernel_rfl
    have a5 : (⟨190, litF frmA⟩ : Fr).get 5 = some (.ptr 1024 0) := by kernel_rfl
    have a7 : (⟨190, litF frmA⟩ : Fr).get 7 = some (.ptr 1741 0) := by kernel_rfl
    have hfr' : FRel ρ ⟨190, litF (frmS (ofBytes H0) (ofBytes S0))⟩ ac.tmps := by
      refine ⟨hfr.1, fun t e hg => ?_⟩
      have hm := litF_get (l := frmS (ofBytes H0) (ofBytes S0)) (show (litF _).get t = some e from hg)
      simp only [frmS, List.mem_cons, Prod.mk.injEq, List.not_mem_nil, or_false] at hm
      rcases hm with ⟨rfl, rfl⟩ | ⟨rfl, rfl⟩ | ⟨rfl, rfl⟩ | ⟨rfl, rfl⟩
      · obtain ⟨v, q1, q2⟩ := hfr.2 0 _ a0
        cases q2 with | sym _ _ hv _ => ?_
        rw [v4] at hv
        subst hv
        exact ⟨_, q1, .str _ _ rfl⟩
      · obtain ⟨v, q1, q2⟩ := hfr.2 1 _ a1
        cases q2 with | sym _ _ hv _ => ?_
        rw [v5] at hv
        subst hv
        exact ⟨_, q1, .str _ _ rfl⟩
      · exact hfr.2 5 _ a5
      · exact hfr.2 7 _ a7
    obtain ⟨f2, e2, n2, g0, g1, gk⟩ := cut_run (withI kitJ) 10 (s9 := by kernel_rfl) (ofBytes H0) (ofBytes S0) (f := ⟨190, litF (frmS (ofBytes H0) (ofBytes S0))⟩) (h := ⟨litH litA, 1746⟩) rfl (by kernel_rfl) (by kernel_rfl) (by simp)
    have p := sound1_exec okJ e2 (fun e => by cases e) ro n ρ ac w hfr' hr hl
    have b5 := (gk 5 (.inl rfl)).trans (show (⟨190, litF (frmS (ofBytes H0) (ofBytes S0))⟩ : Fr).get 5 = some (.ptr 1024 0) by kernel_rfl)
    have b7 := (gk 7 (.inr rfl)).trans (show (⟨190, litF (frmS (ofBytes H0) (ofBytes S0))⟩ : Fr).get 7 = some (.ptr 1741 0) by kernel_rfl)
    refine seq_wp (x1 := .normal ⟨190, litF frmB⟩ ⟨litH litA, 1758⟩) (wpIn_mono p fun e a' w' hq => ?_) (fun f' h' e ρ' a' w' q1 q2 q3 => ?_) (fun hn => absurd rfl (hn _ _))
    · obtain ⟨ρ', f', h', q1, q2, q3, q4, q5⟩ := hq
      cases e with
      | normal =>
        obtain ⟨rfl, rfl⟩ := q1
        refine ⟨ρ', _, _, ⟨rfl, rfl⟩, ⟨by rw [q2.1, n2], fun t e hg => ?_⟩, q3, q4, q5⟩
        have hm := litF_get (l := frmB) (show (litF _).get t = some e from hg)
        rw [frmB_eq] at hm
        simp only [List.mem_cons, Prod.mk.injEq, List.not_mem_nil, or_false] at hm
        rcases hm with ⟨rfl, rfl⟩ | ⟨rfl, rfl⟩ | ⟨rfl, rfl⟩ | ⟨rfl, rfl⟩
        · obtain ⟨v, z1, z2⟩ := q2.2 0 _ g0
          refine ⟨v, z1, ?_⟩
          rw [← (cut_bytes H0).1] at z2
          cases z2 with | str s _ hs => ?_
          have : s = H0.extract 0 250 := by
            exact ByteArray.ext (Array.toList_inj.1 (ofBytes_inj hs))
          subst this
          exact .sym _ _ v0 rfl
        · obtain ⟨v, z1, z2⟩ := q2.2 1 _ g1
          refine ⟨v, z1, ?_⟩
          rw [← (cut_bytes S0).1] at z2
          cases z2 with | str s _ hs => ?_
          have : s = S0.extract 0 250 := by
            exact ByteArray.ext (Array.toList_inj.1 (ofBytes_inj hs))
          subst this
          exact .sym _ _ v1 rfl
        · exact q2.2 5 _ b5
        · exact q2.2 7 _ b7
      | _ => exact q1.elim
    · cases e
      exact sB ro n ρ' a' w' q1 q2 (hl.ext q3)
  exact ⟨f1, h1, sound1_parts okA (d := 4) (c := lawB) (by intro e; cases e) runA sT, g1⟩
end laws

/-- The law is true, whatever its arguments, and turns nothing that was. -/
theorem law_calls (host side A T : ByteArray) (tr d : Int) (par : Value) (hp : par.oneCell' = true) (W : World) :
    Calls Tryz.prog 3 #[.string host, .string side, .agg #[.int .u64 tr, par, .string A, .int .i64 d, .string T]] W fun e W' => e = .returned (.bool true) ∧ RowKit.Below W.heap.size W W' := by
  letI : Syms := ⟨fun n => match n with
    | 0 => .string (host.extract 0 250)
    | 1 => .string (side.extract 0 250)
    | 2 => .string A
    | 3 => .string T
    | 4 => .string host
    | 5 => .string side
    | 6 => .int .i64 d
    | 7 => .int .u64 tr
    | _ => par⟩
  obtain ⟨f, hh, hs, g'⟩ := law_ret (H0 := host) (S0 := side) (A := A) (T := T) (d := d) rfl rfl rfl rfl rfl rfl rfl
  have hf : FRel Ren.none f0A (#[.string host, .string side, .agg #[.int .u64 tr, par, .string A, .int .i64 d, .string T]] ++ Array.replicate (Tryz.f3.ntmps - 3) undef) :=
    initFr_rel (n := 190) (args' := #[.string host, .string side, .agg #[.int .u64 tr, par, .string A, .int .i64 d, .string T]])
      (.cons _ _ _ _ (.sym 4 _ rfl rfl) (.cons _ _ _ _ (.sym 5 _ rfl rfl) (.cons _ _ _ _ (.agg _ _ (.cons _ _ _ _ (.sym 7 _ rfl rfl) (.cons _ _ _ _ (.sym 8 _ rfl hp) (.cons _ _ _ _ (.sym 2 _ rfl rfl) (.cons _ _ _ _ (.sym 6 _ rfl rfl) (.cons _ _ _ _ (.sym 3 _ rfl rfl) .nil)))))) .nil))) (by simp)
  have hc := calls_sound1 (ρ := Ren.none) (w := W) okJ (g := 3) (fn := Tryz.f3) (c := lawB) (show (withI kitJ).fn 3 = some Tryz.f3 by kernel_rfl) rfl (vs := [.bool true]) hs (by rw [show Tryz.f3.results.toList = [.tmp 6] by kernel_rfl]; exact res_tmp g') (Rel.nothing 1024 W) hf 0
  refine (callsIn_wide.1 hc).mono ?_
  rintro e W' ⟨v', rfl, ρ', h1, h2, h3⟩
  cases h1
  exact ⟨rfl, h3.os, h3.tape, h3.output, h3.size, fun k hk => Extd.all_kept h3 k hk⟩
end Go.Eng

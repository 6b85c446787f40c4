/- A part of the proof of DeskLimits: the runs of the document's example and of the law's body, and facts of the row. Conditions: none. -/
import Derived.Test.YtcagaoplekniaaaGreatDoorDBl
namespace Go.Eng
open Go Go.RowKit Go.Proofs
variable [Syms]
set_option maxRecDepth 1000000

omit [Syms] in
theorem indexByte_blanks : ∀ n, Lib.indexByte (List.replicate n (32 : UInt8)) 10 = -1
  | 0 => rfl
  | n + 1 => by
    rw [List.replicate_succ]
    unfold Lib.indexByte
    rw [indexByte_blanks n]
    rfl
omit [Syms] in
theorem blanks_list (n : Nat) : (blanks n).data.toList = List.replicate n 32 := by simp [blanks]

theorem sym0_args {ρ : Ren} {v : Value} {args' : Array Value} (hv : Syms.val 0 = v) (ha : VRels ρ [.sym 0] args'.toList) : args' = #[v] := by
  obtain ⟨al⟩ := args'
  cases ha with
  | cons _ v0 _ vs h0 hs =>
    cases hs
    cases h0 with
    | sym _ _ h1 _ => rw [hv] at h1; subst h1; rfl

theorem wordsS_ok {L : Nat} (hL : L ≤ 1000000) (hv : Syms.val 0 = .string (blanks L)) : IntrOk Tryz.prog 11 wordsS := by
  intro args h v h' hx ρ w args' hr ha
  unfold wordsS at hx
  split at hx
  rotate_left
  · cases hx
  cases hx
  rw [sym0_args hv ha]
  refine .inl ⟨enter0 (show tb0.fn 11 = some Tryz.f11 by kernel_rfl) rfl _ _, fun nd => callsIn_wide.2 ((words_blanks L hL w).mono fun e w' hq => ?_)⟩
  obtain ⟨rfl, hbw⟩ := hq
  exact ⟨_, rfl, cpost_below hr hbw (.tuple _ _ (.cons _ _ _ _ .nilSlice (.cons _ _ _ _ (.agg _ _ (.cons _ _ _ _ (.int _ _) (.cons _ _ _ _ (.int _ _) .nil))) .nil)))⟩

theorem cutS_ok {L : Nat} (h2 : 2 ≤ L) (hv : Syms.val 0 = .string (blanks L)) : IntrOk Tryz.prog 58 cutS := by
  intro args h v h' hx ρ w args' hr ha
  unfold cutS at hx
  split at hx
  rotate_left
  · cases hx
  cases hx
  obtain ⟨al⟩ := args'
  cases ha with
  | cons _ v0 _ vs h0 hs =>
  cases hs with
  | cons _ v1 _ vs1 h1 hs1 =>
  cases hs1
  cases h0 with
  | sym _ _ hs0 _ =>
  rw [hv] at hs0
  subst hs0
  cases h1 with
  | str s _ hs =>
  have : s = ⟨#[10]⟩ := ByteArray.ext (Array.toList_inj.1 (ofBytes_inj (hs.trans (show [10] = ofBytes ⟨#[10]⟩ by kernel_rfl))))
  subst this
  refine .inl ⟨enter0 (show tb0.fn 58 = some Tryz.f58 by kernel_rfl) rfl _ _, fun nd => callsIn_wide.2 ((cut_miss (blanks L) (by rw [blanks_size]; exact h2) (by rw [blanks_list]; exact indexByte_blanks L) w).mono fun e w' hq => ?_)⟩
  obtain ⟨rfl, rfl⟩ := hq
  exact ⟨_, rfl, cpost_below hr (Below.refl _ _) (.tuple _ _ (.cons _ _ _ _ (.sym _ _ hv rfl) (.cons _ _ _ _ (.str _ _ rfl) (.cons _ _ _ _ (.bool _) .nil))))⟩

theorem eqsB_ok {L : Nat} (h2 : 2 ≤ L) (hv : Syms.val 0 = .string (blanks L)) : ∀ n y b, eqsB n y = some b → ∃ s, Syms.val n = .string s ∧ ((∃ l, y = .str l ∧ strEq (ofBytes s) l = b) ∨ ∃ m t, y = .sym m ∧ Syms.val m = .string t ∧ strEq (ofBytes s) (ofBytes t) = b) := by
  intro n y b he
  unfold eqsB at he
  split at he
  · cases he
    refine ⟨_, hv, .inl ⟨[], rfl, ?_⟩⟩
    unfold ofBytes
    rw [blanks_list]
    cases L with
    | zero => omega
    | succ L => rw [List.replicate_succ]; rfl
  · cases he
theorem lensB_ok {L : Nat} (hv : Syms.val 0 = .string (blanks L)) : ∀ k n, lensB L k = some n → ∃ s, Syms.val k = .string s ∧ s.size = n := by
  intro k n he
  unfold lensB at he
  split at he
  · cases he
    exact ⟨_, hv, blanks_size _⟩
  · cases he

theorem fnok_with {i : FuncId → Option (List EV → EH → Option (EV × EH))} {e : Nat → EV → Option Bool} {l : Nat → Option Nat} (h : FnOk Tryz.prog (withI i))
    (he : ∀ n y b, e n y = some b → ∃ s, Syms.val n = .string s ∧ ((∃ l, y = .str l ∧ strEq (ofBytes s) l = b) ∨ ∃ m t, y = .sym m ∧ Syms.val m = .string t ∧ strEq (ofBytes s) (ofBytes t) = b))
    (hl : ∀ k n, l k = some n → ∃ s, Syms.val k = .string s ∧ s.size = n) : FnOk Tryz.prog { withI i with eqs := e, lens := l } where
  toTabOk := { und := h.und, inf := h.inf, fn := h.fn, eqst := h.eqst, eqs := he, lens := hl }
  enter := h.enter
  ext := h.ext
  intr := h.intr
  mixed := h.mixed

theorem okA {L : Nat} (hL : L ≤ 1000000) (h2 : 2 ≤ L) (hv : Syms.val 0 = .string (blanks L)) : FnOk Tryz.prog (tbA L) :=
  fnok_with (okI fun g r h => by
    rcases okOpt h with ⟨b, e⟩ | ⟨_, e⟩
    · cases e
      obtain rfl := Nat.eq_of_beq_eq_true b
      exact wordsS_ok hL hv
    · exact okJ.intr g r e) (eqsB_ok h2 hv) (lensB_ok hv)
theorem okB {L : Nat} (hp : TableOk) (hL : L ≤ 1000000) (h2 : 2 ≤ L) (hv : Syms.val 0 = .string (blanks L)) : FnOk Tryz.prog (tbB L) :=
  fnok_with (okI fun g r h => by
    rcases okOpt h with ⟨b, e⟩ | ⟨_, e⟩
    · cases e
      obtain rfl := Nat.eq_of_beq_eq_true b
      exact doI_ok (okA hL h2 hv) 100000 (itoa370 hp) (fun args w => enter0 (show tb0.fn 5 = some Tryz.f5 by kernel_rfl) rfl args w)
    rcases okOpt e with ⟨b, e⟩ | ⟨_, e⟩
    · cases e
      obtain rfl := Nat.eq_of_beq_eq_true b
      exact cutS_ok h2 hv
    · exact okJ.intr g r e) (eqsB_ok h2 hv) (lensB_ok hv)

/-- What Run comes to, of so many blanks. -/
def runOut (n : Nat) : Value := if n ≤ 20 then .tuple #[.string ⟨#[]⟩, .agg #[.int .i64 0, .int .i64 0]] else .tuple #[.string ⟨#[]⟩, .agg #[.int .i64 3, .int .i64 262144]]
theorem run_calls (hp : TableOk) (n : Nat) (hn : n < 40) (hv : Syms.val 0 = .string (blanks (262124 + n))) (w : World) (hw : ∀ b x, Syms.pin b = some x → w.heap[b]? = some (.cells x.1 x.2.1 x.2.2)) :
    Calls Tryz.prog 8 #[.string (blanks (262124 + n))] w fun e w' => e = .returned (runOut n) ∧ Below w.heap.size w w' := by
  have hr : goR n = true := List.all_eq_true.1 rAll n (List.mem_range.2 hn)
  unfold goR at hr
  refine (closed_out (okB hp (by omega) (by omega) hv) (show (tbB (262124 + n)).fn 8 = some Tryz.f8 by kernel_rfl) rfl hr (args' := #[.string (blanks (262124 + n))]) (.cons _ _ _ _ (.sym _ _ hv rfl) .nil) (by decide) w hw).mono ?_
  rintro e w' ⟨v', rfl, ⟨ρ', hv'⟩, hb⟩
  refine ⟨?_, hb⟩
  congr 1
  have pick : ∀ a b : Int, VRel ρ' (.tuple [.str [], .agg [.int .i64 a, .int .i64 b]]) v' → v' = .tuple #[.string ⟨#[]⟩, .agg #[.int .i64 a, .int .i64 b]] := by
    intro a b hq
    cases hq with
    | tuple _ cs hcs =>
      obtain ⟨cl⟩ := cs
      cases hcs with
      | cons _ x1 _ _ q1 r1 => cases r1 with
        | cons _ x2 _ _ q2 r2 =>
          cases r2
          cases q1 with
          | str s _ hs =>
            have : s = ⟨#[]⟩ := ByteArray.ext (Array.toList_inj.1 (ofBytes_inj (hs.trans (show [] = ofBytes ⟨#[]⟩ by kernel_rfl))))
            subst this
            cases q2 with
            | agg _ ds hds =>
              obtain ⟨dl⟩ := ds
              cases hds with
              | cons _ y1 _ _ p1 t1 => cases t1 with
                | cons _ y2 _ _ p2 t2 =>
                  cases t2
                  cases p1
                  cases p2
                  rfl
  unfold runOut
  by_cases h20 : n ≤ 20
  · rw [Nat.ble_eq_true_of_le h20] at hv'
    rw [if_pos h20]
    exact pick _ _ hv'
  · have : Nat.ble n 20 = false := by
      cases hb : Nat.ble n 20 with
      | false => rfl
      | true => exact absurd (Nat.le_of_ble_eq_true hb) h20
    rw [this] at hv'
    rw [if_neg h20]
    exact pick _ _ hv'
end Go.Eng

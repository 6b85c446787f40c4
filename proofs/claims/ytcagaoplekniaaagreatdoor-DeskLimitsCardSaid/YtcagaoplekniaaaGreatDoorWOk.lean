/- A part of the proof of DeskLimits: the runs of the document's example and of the law's body, and facts of the row. Conditions: none. -/
import Derived.Test.YtcagaoplekniaaaGreatDoorRunW
namespace Go.Eng
open Go Go.RowKit Go.Proofs
variable [Syms]
set_option maxRecDepth 1000000

/-- The table of powers of ten lies where it lies. -/
def TableOk [Syms] : Prop := ∃ c t f, Syms.pin 0 = some (c, t, f) ∧ c[2]? = some (.int .u64 100)

theorem numI_ok (hp : TableOk) : IntrOk Tryz.prog 102 numI := by
  intro args h v h' hx ρ w args' hr ha
  unfold numI at hx
  split at hx
  rotate_left
  · cases hx
  rename_i n
  split at hx
  rotate_left
  · cases hx
  rename_i hn
  subst hn
  cases hx
  obtain ⟨c, t, f, hpin, hc⟩ := hp
  have hw : w.cell? ⟨0, 2, none⟩ = some (.int .u64 100) := by
    unfold World.cell?
    rw [hr.pin.at_ _ _ hpin]
    exact hc
  obtain ⟨al⟩ := args'
  cases ha with
  | cons _ v0 _ vs hv hs =>
    cases hs
    cases hv
    refine .inl ⟨enter0 (show tb0.fn 102 = some Tryz.f102 by kernel_rfl) rfl _ _, fun nd => callsIn_wide.2 ((numDigits370 w hw).mono fun e w' hq => ?_)⟩
    obtain ⟨rfl, rfl⟩ := hq
    exact ⟨_, rfl, cpost_below hr (Below.refl _ _) (.int _ _)⟩

theorem okN (hp : TableOk) : FnOk Tryz.prog tbN := okI fun g r h => by
  rcases okOpt h with ⟨b, e⟩ | ⟨_, e⟩
  · cases e
    obtain rfl := Nat.eq_of_beq_eq_true b
    exact numI_ok hp
  · exact okJ.intr g r e

theorem itoa370 (hp : TableOk) (w : World) (hw : ∀ b x, Syms.pin b = some x → w.heap[b]? = some (.cells x.1 x.2.1 x.2.2)) :
    Calls Tryz.prog 10 #[.int .i64 370] w fun e w' => e = .returned (.string ⟨#[51, 55, 48]⟩) ∧ Below w.heap.size w w' := by
  refine (closed_out (okN hp) (show tbN.fn 10 = some Tryz.f10 by kernel_rfl) rfl runItoa (args' := #[.int .i64 370]) (.cons _ _ _ _ (.int _ _) .nil) (by decide) w hw).mono ?_
  rintro e w' ⟨v', rfl, ⟨ρ', hv⟩, hb⟩
  cases hv with
  | str s _ hs =>
    have : s = ⟨#[51, 55, 48]⟩ := ByteArray.ext (Array.toList_inj.1 (ofBytes_inj (hs.trans (show [51, 55, 48] = ofBytes ⟨#[51, 55, 48]⟩ by kernel_rfl))))
    subst this
    exact ⟨rfl, hb⟩

theorem okD (hp : TableOk) : FnOk Tryz.prog (withI kitD) := okI fun g r h => by
  rcases okOpt h with ⟨b, e⟩ | ⟨_, e⟩
  · cases e
    obtain rfl := Nat.eq_of_beq_eq_true b
    exact doI_ok okJ 100000 (itoa370 hp) (fun args w => enter0 (show tb0.fn 5 = some Tryz.f5 by kernel_rfl) rfl args w)
  · exact okJ.intr g r e

theorem wakes_calls (hp : TableOk) (w : World) (hw : ∀ b x, Syms.pin b = some x → w.heap[b]? = some (.cells x.1 x.2.1 x.2.2)) :
    Calls Tryz.prog 4 #[] w fun e w' => e = .returned (.bool true) ∧ Below w.heap.size w w' := by
  have hB := runW27
  exact law_of_run (okD hp) (show (withI kitD).fn 4 = some Tryz.f4 by kernel_rfl) rfl (by kernel_rfl) hB w hw (initFr_rel (args' := #[]) .nil (by simp))
end Go.Eng

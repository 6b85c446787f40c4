/- A part of the proof of DeskLimits: the runs of the document's example and of the law's body, and facts of the row. Conditions: none. -/
import Derived.Test.YtcagaoplekniaaaGreatDoorWOk
namespace Go.Eng
open Go Go.RowKit Go.Proofs
set_option maxRecDepth 1000000
theorem runDoNil : okEnd tbJ Tryz.f5.results.toList (.tuple [.str [], .int .i64 1]) [] 99999 ((execF tbJ 100000 : Ex) false (bodyOf Tryz.f5) (initFr Tryz.f5.ntmps [.nilPtr, .any]) ⟨.leaf, 1024⟩) = true := by kernel_rfl
theorem runNewNil : okEnd tbJ Tryz.f6.results.toList (.tuple [.nilPtr, .int .i64 1]) [] 99999 ((execF tbJ 100000 : Ex) false (bodyOf Tryz.f6) (initFr Tryz.f6.ntmps [.nilPtr]) ⟨.leaf, 1024⟩) = true := by kernel_rfl
variable [Syms]
theorem do_nil (s : ByteArray) (w : World) (hw : ∀ b x, Syms.pin b = some x → w.heap[b]? = some (.cells x.1 x.2.1 x.2.2)) : Calls Tryz.prog 5 #[.pointer none, .string s] w fun e w' => e = .returned (.tuple #[.string ⟨#[]⟩, .int .i64 1]) ∧ Below w.heap.size w w' := by
  refine (closed_out okJ (show tbJ.fn 5 = some Tryz.f5 by kernel_rfl) rfl runDoNil (args' := #[.pointer none, .string s]) (.cons _ _ _ _ .nilPtr (.cons _ _ _ _ (.any _ rfl) .nil)) (by decide) w hw).mono ?_
  rintro e w' ⟨v', rfl, ⟨ρ', hv⟩, hb⟩
  refine ⟨?_, hb⟩
  congr 1
  cases hv with
  | tuple _ cs hcs =>
    obtain ⟨cl⟩ := cs
    cases hcs with
    | cons _ x1 _ _ q1 r1 => cases r1 with
      | cons _ x2 _ _ q2 r2 =>
        cases r2
        cases q2
        cases q1 with
        | str s _ hs =>
          have : s = ⟨#[]⟩ := ByteArray.ext (Array.toList_inj.1 (ofBytes_inj (hs.trans (show [] = ofBytes ⟨#[]⟩ by kernel_rfl))))
          subst this
          rfl
theorem new_nil (w : World) (hw : ∀ b x, Syms.pin b = some x → w.heap[b]? = some (.cells x.1 x.2.1 x.2.2)) : Calls Tryz.prog 6 #[.pointer none] w fun e w' => e = .returned (.tuple #[.pointer none, .int .i64 1]) ∧ Below w.heap.size w w' := by
  refine (closed_out okJ (show tbJ.fn 6 = some Tryz.f6 by kernel_rfl) rfl runNewNil (args' := #[.pointer none]) (.cons _ _ _ _ .nilPtr .nil) (by decide) w hw).mono ?_
  rintro e w' ⟨v', rfl, ⟨ρ', hv⟩, hb⟩
  refine ⟨?_, hb⟩
  congr 1
  cases hv with
  | tuple _ cs hcs =>
    obtain ⟨cl⟩ := cs
    cases hcs with
    | cons _ x1 _ _ q1 r1 => cases r1 with
      | cons _ x2 _ _ q2 r2 =>
        cases r2
        cases q1
        cases q2
        rfl
end Go.Eng

/- A part of the proof of DeskLimits: the runs of the document's example and of the law's body, and facts of the row. Conditions: none. -/
import Derived.Test.YtcagaoplekniaaaGreatDoorDMust
import Derived.Test.YtcagaoplekniaaaGreatDoorEngP
namespace Go.Proofs
open Go Go.RowKit Go.Lib Go.Eng

noncomputable def doB : Code := bodyOf Tryz.f5
noncomputable def r10 : Code := match Tryz.f5.body with | some (.seq _ (.seq _ (.seq _ (.seq _ (.seq _ (.seq _ (.seq _ (.seq (.seq _ (.cond _ c _)) _)))))))) => c | _ => .skip
noncomputable def r9 : Code := Code.at [false, false] (tail 7 doB)
theorem tail7_eq : tail 7 doB = .seq (.seq r9 (.cond (.tmp 41) r10 .skip)) (tail 8 doB) := by kernel_rfl
/-- The body's beginning, with anything behind it. -/
noncomputable def doHead (R : Code) : Code := match Tryz.f5.body with | some (.seq a (.seq b (.seq c _))) => .seq a (.seq b (.seq c R)) | _ => .skip
theorem doHead_eq : doB = doHead (tail 3 doB) := by kernel_rfl

/-- The frame behind the beginning. -/
def doT (kp ap : Addr) (s : Value) : Array Value := #[.pointer (some kp), s, undef, undef, .pointer (some ap), .int .i64 0, undef, undef, undef, undef, .pointer (some kp), .bool false, .func (.func 9) #[] #[.pointer (some ap)], undef, undef, undef, undef, undef, undef, undef, undef, undef, undef, undef, undef, undef, undef, undef, undef, undef, undef, undef, undef, undef, undef, undef, undef, undef, undef, undef, undef, undef, undef, undef, undef, undef, undef, undef, undef, undef, undef, undef, undef, undef, undef]
def doT0 (kp : Addr) (s : Value) : Array Value := #[.pointer (some kp), s, undef, undef, undef, undef, undef, undef, undef, undef, undef, undef, undef, undef, undef, undef, undef, undef, undef, undef, undef, undef, undef, undef, undef, undef, undef, undef, undef, undef, undef, undef, undef, undef, undef, undef, undef, undef, undef, undef, undef, undef, undef, undef, undef, undef, undef, undef, undef, undef, undef, undef, undef, undef, undef]
theorem doT_size (kp ap : Addr) (s : Value) : (doT kp ap s).size = 55 := rfl
theorem doT_0 (kp ap : Addr) (s : Value) : (doT kp ap s)[0]? = some (.pointer (some kp)) := rfl
theorem doT_1 (kp ap : Addr) (s : Value) : (doT kp ap s)[1]? = some s := rfl
theorem doT_4 (kp ap : Addr) (s : Value) : (doT kp ap s)[4]? = some (.pointer (some ap)) := rfl
theorem doT_5 (kp ap : Addr) (s : Value) : (doT kp ap s)[5]? = some (.int .i64 0) := rfl
theorem doT0_eq (kp : Addr) (s : Value) : (⟨[.pointer (some kp), s]⟩ : Array Value) ++ Array.replicate (Tryz.f5.ntmps - (⟨[.pointer (some kp), s]⟩ : Array Value).size) undef = doT0 kp s := by kernel_rfl

set_option maxRecDepth 1000000 in
theorem head_lit (R : Code) (kp : Addr) (s : Value) (w : World) (Q : Exit → Act → World → Prop)
    (h : R.wp Tryz.prog Q { tmps := doT kp ⟨w.heap.size, 0, none⟩ s, defers := [deferOf 9 ⟨w.heap.size, 0, none⟩] } (w.alloc (.cells #[.string ⟨#[]⟩] 9))) :
    (doHead R).wp Tryz.prog Q { tmps := doT0 kp s, defers := [] } w := by
  unfold doT0
  have hmf : ∀ (fn : Fn) (first cap : Array Value) (w : World), (Instr.makeFunc fn first cap).run Tryz.prog w = .ok (.func fn first cap) w := fun _ _ _ _ => rfl
  unfold doHead
  simp only [Tryz.f5]
  go_wp2
  exact h

set_option maxRecDepth 1000000 in
theorem r10_lit (u0 u1 u2 u3 u4 u5 u6 u7 u8 u9 u10 u11 u12 u13 u14 u15 u16 u17 u18 u19 u20 u21 u22 u23 u24 u25 u26 u27 u28 u29 u30 u31 u32 u33 u34 u35 u36 u37 u38 u39 u40 u41 u42 u43 u44 u45 u46 u47 u48 u49 u50 u51 u52 u53 u54 : Value) (ds : List Deferred) (w : World) (Q : Exit → Act → World → Prop)
    (h : Q (.panic [{ v := .iface 38 (.agg #[.int .i64 370]), recovered := false }]) { tmps := #[u0, u1, u2, u3, u4, u5, u6, u7, u8, u9, u10, u11, u12, u13, u14, u15, u16, u17, u18, u19, u20, u21, u22, u23, u24, u25, u26, u27, u28, u29, u30, u31, u32, u33, u34, u35, u36, u37, u38, u39, u40, u41, u42, u43, u44, u45, u46, u47, u48, u49, u50, u51, u52, u53, u54], defers := ds } w) : r10.wp Tryz.prog Q { tmps := #[u0, u1, u2, u3, u4, u5, u6, u7, u8, u9, u10, u11, u12, u13, u14, u15, u16, u17, u18, u19, u20, u21, u22, u23, u24, u25, u26, u27, u28, u29, u30, u31, u32, u33, u34, u35, u36, u37, u38, u39, u40, u41, u42, u43, u44, u45, u46, u47, u48, u49, u50, u51, u52, u53, u54], defers := ds } w := by
  unfold r10
  simp only [Tryz.f5]
  go_wp2_with (fail)
  refine (must_panics 370 (by decide) _).mono ?_
  rintro e W ⟨rfl, rfl⟩
  exact h

theorem r10_any (x : Array Value) (hx : x.size = 55) (ds : List Deferred) (w : World) (Q : Exit → Act → World → Prop)
    (h : Q (.panic [{ v := .iface 38 (.agg #[.int .i64 370]), recovered := false }]) { tmps := x, defers := ds } w) : r10.wp Tryz.prog Q { tmps := x, defers := ds } w := by
  obtain ⟨l⟩ := x
  have hx' : l.length = 55 := hx
  clear hx
  obtain _ | ⟨u0, l⟩ := l
  · simp at hx'
  obtain _ | ⟨u1, l⟩ := l
  · simp at hx'
  obtain _ | ⟨u2, l⟩ := l
  · simp at hx'
  obtain _ | ⟨u3, l⟩ := l
  · simp at hx'
  obtain _ | ⟨u4, l⟩ := l
  · simp at hx'
  obtain _ | ⟨u5, l⟩ := l
  · simp at hx'
  obtain _ | ⟨u6, l⟩ := l
  · simp at hx'
  obtain _ | ⟨u7, l⟩ := l
  · simp at hx'
  obtain _ | ⟨u8, l⟩ := l
  · simp at hx'
  obtain _ | ⟨u9, l⟩ := l
  · simp at hx'
  obtain _ | ⟨u10, l⟩ := l
  · simp at hx'
  obtain _ | ⟨u11, l⟩ := l
  · simp at hx'
  obtain _ | ⟨u12, l⟩ := l
  · simp at hx'
  obtain _ | ⟨u13, l⟩ := l
  · simp at hx'
  obtain _ | ⟨u14, l⟩ := l
  · simp at hx'
  obtain _ | ⟨u15, l⟩ := l
  · simp at hx'
  obtain _ | ⟨u16, l⟩ := l
  · simp at hx'
  obtain _ | ⟨u17, l⟩ := l
  · simp at hx'
  obtain _ | ⟨u18, l⟩ := l
  · simp at hx'
  obtain _ | ⟨u19, l⟩ := l
  · simp at hx'
  obtain _ | ⟨u20, l⟩ := l
  · simp at hx'
  obtain _ | ⟨u21, l⟩ := l
  · simp at hx'
  obtain _ | ⟨u22, l⟩ := l
  · simp at hx'
  obtain _ | ⟨u23, l⟩ := l
  · simp at hx'
  obtain _ | ⟨u24, l⟩ := l
  · simp at hx'
  obtain _ | ⟨u25, l⟩ := l
  · simp at hx'
  obtain _ | ⟨u26, l⟩ := l
  · simp at hx'
  obtain _ | ⟨u27, l⟩ := l
  · simp at hx'
  obtain _ | ⟨u28, l⟩ := l
  · simp at hx'
  obtain _ | ⟨u29, l⟩ := l
  · simp at hx'
  obtain _ | ⟨u30, l⟩ := l
  · simp at hx'
  obtain _ | ⟨u31, l⟩ := l
  · simp at hx'
  obtain _ | ⟨u32, l⟩ := l
  · simp at hx'
  obtain _ | ⟨u33, l⟩ := l
  · simp at hx'
  obtain _ | ⟨u34, l⟩ := l
  · simp at hx'
  obtain _ | ⟨u35, l⟩ := l
  · simp at hx'
  obtain _ | ⟨u36, l⟩ := l
  · simp at hx'
  obtain _ | ⟨u37, l⟩ := l
  · simp at hx'
  obtain _ | ⟨u38, l⟩ := l
  · simp at hx'
  obtain _ | ⟨u39, l⟩ := l
  · simp at hx'
  obtain _ | ⟨u40, l⟩ := l
  · simp at hx'
  obtain _ | ⟨u41, l⟩ := l
  · simp at hx'
  obtain _ | ⟨u42, l⟩ := l
  · simp at hx'
  obtain _ | ⟨u43, l⟩ := l
  · simp at hx'
  obtain _ | ⟨u44, l⟩ := l
  · simp at hx'
  obtain _ | ⟨u45, l⟩ := l
  · simp at hx'
  obtain _ | ⟨u46, l⟩ := l
  · simp at hx'
  obtain _ | ⟨u47, l⟩ := l
  · simp at hx'
  obtain _ | ⟨u48, l⟩ := l
  · simp at hx'
  obtain _ | ⟨u49, l⟩ := l
  · simp at hx'
  obtain _ | ⟨u50, l⟩ := l
  · simp at hx'
  obtain _ | ⟨u51, l⟩ := l
  · simp at hx'
  obtain _ | ⟨u52, l⟩ := l
  · simp at hx'
  obtain _ | ⟨u53, l⟩ := l
  · simp at hx'
  obtain _ | ⟨u54, l⟩ := l
  · simp at hx'
  obtain _ | ⟨z, l⟩ := l
  · exact r10_lit u0 u1 u2 u3 u4 u5 u6 u7 u8 u9 u10 u11 u12 u13 u14 u15 u16 u17 u18 u19 u20 u21 u22 u23 u24 u25 u26 u27 u28 u29 u30 u31 u32 u33 u34 u35 u36 u37 u38 u39 u40 u41 u42 u43 u44 u45 u46 u47 u48 u49 u50 u51 u52 u53 u54 ds w Q h
  · simp at hx'
end Go.Proofs

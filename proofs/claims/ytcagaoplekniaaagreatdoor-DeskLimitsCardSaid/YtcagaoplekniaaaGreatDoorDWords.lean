/- A part of the proof of DeskLimits: the runs of the document's example and of the law's body, and facts of the row. Conditions: none. -/
import Derived.Test.YtcagaoplekniaaaGreatDoorDMust
import Derived.WalkMore
import Derived.ScopeJumps
import Derived.BigFrame
namespace Go.Proofs
open Go.RowKit Go.Lib

/-- So many blanks. -/
def blanks (n : Nat) : ByteArray := ⟨Array.replicate n 32⟩
theorem blanks_size (n : Nat) : (blanks n).size = n := by simp [blanks, ByteArray.size]
theorem blanks_get (n i : Nat) (h : i < (blanks n).size) : (blanks n)[i] = 32 := by
  have h' : i < (Array.replicate n (32 : UInt8)).size := h
  exact Array.getElem_replicate h'

theorem alloc_last (w : World) (o : Obj) : (w.alloc o).heap[w.heap.size]? = some o := by
  show (w.heap.push o)[w.heap.size]? = _
  simp
theorem words_results {tmps : Array Value} {w : World} {b : Nat} {fr : Nat × Nat} (v x y : Value) (h2 : tmps.getD 2 undef = v) (h3 : tmps.getD 3 undef = .pointer (some ⟨b, 0, none⟩)) (hg : w.heap[b]? = some (.cells #[x, y] 33 fr)) :
    (results Tryz.f11 tmps).run Tryz.prog w = .ok (.tuple #[v, .agg #[x, y]]) w := by
  have hl := run_loadVar_row (P := Tryz.prog) w b 33 33 #[x, y] fr _ hg Tryz.underlying33 rfl (by kernel_rfl)
  have g2 : tmps[2]?.getD undef = v := by simpa using h2
  have g3 : tmps[3]?.getD undef = .pointer (some ⟨b, 0, none⟩) := by simpa using h3
  simp only [results, Tryz.results11]
  simp [g2, g3, asAddr, hl]

def atOf (a : Act) : Nat := (intOf (a.tmps.getD 5 undef)).toNat

set_option maxRecDepth 1000000 in
set_option maxHeartbeats 4000000 in
theorem words_blanks (L : Nat) (hL : L ≤ 1000000) (w : World) : Calls Tryz.prog 11 #[.string (blanks L)] w fun e w' => e = .returned (.tuple #[.slice none 0 0, .agg #[.int .i64 0, .int .i64 0]]) ∧ Below w.heap.size w w' := by
  go_enter Tryz.func11, Tryz.ntmps11
  go_wp2
  refine wp_scope_jumps 0 (fun a' w' => w' = w.alloc (.cells #[.int .i64 0, .int .i64 0] 33) ∧ ∃ (k : Nat) (u1 u6 u7 u8 u9 u10 u11 u12 u13 u14 u15 u16 u17 u18 u19 u20 u21 u22 u23 u24 u25 u26 u27 u28 u29 u30 u31 u32 u33 u34 u35 u36 u37 u38 u39 u40 u41 u42 u43 u44 u45 u46 u47 u48 u49 u50 u51 u52 u53 u54 u55 u56 u57 u58 u59 u60 u61 u62 u63 u64 u65 u66 u67 u68 u69 u70 u71 u72 u73 u74 u75 u76 u77 u78 u79 u80 u81 u82 u83 u84 u85 u86 u87 u88 u89 u90 u91 u92 u93 u94 u95 u96 u97 u98 u99 u100 u101 u102 : Value), a' = { tmps := #[.string (blanks L), u1, .slice none 0 0, .pointer (some ⟨w.heap.size, 0, none⟩), .slice none 0 0, .int .i64 (k : Int), u6, u7, u8, u9, u10, u11, u12, u13, u14, u15, u16, u17, u18, u19, u20, u21, u22, u23, u24, u25, u26, u27, u28, u29, u30, u31, u32, u33, u34, u35, u36, u37, u38, u39, u40, u41, u42, u43, u44, u45, u46, u47, u48, u49, u50, u51, u52, u53, u54, u55, u56, u57, u58, u59, u60, u61, u62, u63, u64, u65, u66, u67, u68, u69, u70, u71, u72, u73, u74, u75, u76, u77, u78, u79, u80, u81, u82, u83, u84, u85, u86, u87, u88, u89, u90, u91, u92, u93, u94, u95, u96, u97, u98, u99, u100, u101, u102], defers := [] } ∧ k ≤ L) (fun a _ => L - atOf a) rfl ?_ ?_
  · go_wp2
    go_step3
    by_cases h0 : L = 0
    · subst h0
      have hz : (blanks 0).size = 0 := rfl
      go_wp2
      simp only [Exit.jump]
      exact bodyPost_ret (words_results _ _ _ rfl rfl (alloc_last _ _)) rfl ⟨rfl, (Below.refl _ _).alloc (Nat.le_refl _) _⟩
    · have hz : (blanks L).size = L := blanks_size L
      have hg : ∀ h : 0 < (blanks L).size, (blanks L)[0] = 32 := fun h => blanks_get L 0 h
      have hne : ¬ ((0 : Int) = (L : Int)) := by omega
      go_wp2
      go_step3
      refine ⟨rfl, rfl, 1, _, _, _, _, _, _, _, _, _, _, _, _, _, _, _, _, _, _, _, _, _, _, _, _, _, _, _, _, _, _, _, _, _, _, _, _, _, _, _, _, _, _, _, _, _, _, _, _, _, _, _, _, _, _, _, _, _, _, _, _, _, _, _, _, _, _, _, _, _, _, _, _, _, _, _, _, _, _, _, _, _, _, _, _, _, _, _, _, _, _, _, _, _, _, _, _, _, _, rfl, by omega⟩
  · rintro a' w' ⟨rfl, k, u1, u6, u7, u8, u9, u10, u11, u12, u13, u14, u15, u16, u17, u18, u19, u20, u21, u22, u23, u24, u25, u26, u27, u28, u29, u30, u31, u32, u33, u34, u35, u36, u37, u38, u39, u40, u41, u42, u43, u44, u45, u46, u47, u48, u49, u50, u51, u52, u53, u54, u55, u56, u57, u58, u59, u60, u61, u62, u63, u64, u65, u66, u67, u68, u69, u70, u71, u72, u73, u74, u75, u76, u77, u78, u79, u80, u81, u82, u83, u84, u85, u86, u87, u88, u89, u90, u91, u92, u93, u94, u95, u96, u97, u98, u99, u100, u101, u102, rfl, hk⟩
    by_cases h0 : k = L
    · subst h0
      have hz : (blanks k).size = k := blanks_size k
      go_wp2
      simp only [Exit.jump]
      exact bodyPost_ret (words_results _ _ _ rfl rfl (alloc_last _ _)) rfl ⟨rfl, (Below.refl _ _).alloc (Nat.le_refl _) _⟩
    · have hz : (blanks L).size = L := blanks_size L
      have hg : ∀ h : k < (blanks L).size, (blanks L)[k] = 32 := fun h => blanks_get L k h
      have hne : ¬ ((k : Int) = (L : Int)) := by omega
      go_wp2
      go_step3
      refine ⟨rfl, ⟨rfl, k + 1, _, _, _, _, _, _, _, _, _, _, _, _, _, _, _, _, _, _, _, _, _, _, _, _, _, _, _, _, _, _, _, _, _, _, _, _, _, _, _, _, _, _, _, _, _, _, _, _, _, _, _, _, _, _, _, _, _, _, _, _, _, _, _, _, _, _, _, _, _, _, _, _, _, _, _, _, _, _, _, _, _, _, _, _, _, _, _, _, _, _, _, _, _, _, _, _, _, _, rfl, by omega⟩, ?_⟩
      simp [atOf, intOf]
      omega
end Go.Proofs

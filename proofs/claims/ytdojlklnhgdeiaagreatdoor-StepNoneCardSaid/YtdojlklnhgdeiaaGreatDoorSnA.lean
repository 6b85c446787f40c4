/- A part of the proof of StepNone: the runs of the document's example and of the law's body, and facts of the row. Conditions: none. -/
import Derived.Test.YtdojlklnhgdeiaaGreatDoorSnKit
import Derived.Test.YtdojlklnhgdeiaaGreatDoorEngP
namespace Go.Eng
open Go Go.Proofs
set_option maxRecDepth 1000000
noncomputable def lawB : Code := bodyOf Tryz.f3
noncomputable def f0A : Fr := initFr 190 [.sym 4, .sym 5, .agg [.sym 7, .sym 8, .sym 2, .sym 6, .sym 3]]
noncomputable def kitA (f : FuncId) : Option (List EV → EH → Option (EV × EH)) := cond (Nat.beq f 4) (some (constI true)) (kitJ f)
theorem runA : okState litA 1746 frmA 190 (runL (execF (withI kitA) 100000 : Ex) false (heads 4 lawB) f0A ⟨.leaf, 1024⟩) = true := by kernel_rfl
end Go.Eng

namespace Go.Eng
open Go Go.Proofs
set_option maxRecDepth 1000000

noncomputable def r6 : Code := Code.at [false] (tail 4 lawB)
noncomputable def ops6 : Array Oper := opsOf r6
theorem r6_eq : tail 4 lawB = .seq (.region 6 ops6 true) (tail 5 lawB) := by kernel_rfl
theorem ops6_names : namesOk (Region.before ops6).toList ops6 ops6.toList ops6.toList 0 = true := by kernel_rfl
theorem ops6_size : ops6.size = 12 := by kernel_rfl

theorem len_str {tb : Tab} {t : TypeId} {h : EH} {s : List Nat} (hu : tb.und t = some .string) : lenE tb h t (.str s) = some (.int .i64 s.length) := by simp [lenE, hu]
theorem op_min {tb : Tab} {h : EH} {nm : Nat} {f : Fr} {dst : Option Tmp} {ty : TypeId} {pos : String} {af : Array Edge} {g : Option (Nat × Bool)} {x y : Operand} {t u : TypeId} {a b : EV} (ha : ev f x = some a) (hb : ev f y = some b) :
    opE tb h nm f ⟨dst, .call ⟨.builtin .min, #[x, y], #[t, u]⟩, ty, pos, af, g⟩ = (minE [a, b]).map (.val · h) := by
  show callE1 tb h nm f _ = _
  unfold callE1
  simp only [evs, ha, hb]
  rfl
theorem cut_str {tb : Tab} {t : TypeId} {h : EH} {s : List Nat} (hu : tb.und t = some .string) : sliceE tb h t (.str s) none (some (.int .i64 (if (250 : Int) < (s.length : Int) then 250 else (s.length : Int)))) none = some (.str (s.take 250)) := by
  unfold sliceE
  rw [hu]
  by_cases hl : 250 < s.length
  · rw [if_pos (by omega)]
    simp only [boundE]
    rw [if_pos (by omega)]
    simp only
    rw [if_pos ⟨by omega, by simp; omega⟩]
    rfl
  · rw [if_neg (by omega)]
    simp only [boundE]
    rw [if_pos (by omega)]
    simp only
    rw [if_pos ⟨by omega, by simp⟩]
    have h1 : s.take 250 = s := List.take_of_length_le (by omega)
    have h2 : s.take ((s.length : Int).toNat) = s := List.take_of_length_le (by simp)
    rw [h1, h2]
    rfl
theorem op_slice {tb : Tab} {h : EH} {nm : Nat} {f : Fr} {dst : Option Tmp} {ty : TypeId} {pos : String} {af : Array Edge} {g : Option (Nat × Bool)} {t : TypeId} {x y : Operand} {a b : EV} (ha : ev f x = some a) (hb : ev f y = some b) :
    opE tb h nm f ⟨dst, .slice t x none (some y) none, ty, pos, af, g⟩ = (sliceE tb h t a none (some b) none).map (.val · h) := by
  show (match ev f x, evo f none, evo f (some y), evo f none with | some a, some l, some h', some m => (sliceE tb h t a l h' m).map (OR.val · h) | _, _, _, _ => none) = _
  simp only [ha, evo, hb]
  rfl

noncomputable def frmS (hl sl : List Nat) : List (Nat × EV) := [(0, .str hl), (1, .str sl), (5, .ptr 1024 0), (7, .ptr 1741 0)]
theorem frmA_eq : frmA = [(0, .sym 4), (1, .sym 5), (5, .ptr 1024 0), (7, .ptr 1741 0)] := rfl
theorem frmB_eq : frmB = [(0, .sym 0), (1, .sym 1), (5, .ptr 1024 0), (7, .ptr 1741 0)] := rfl

theorem cut_run (tb : Tab) (N : Nat) {s9 : tb.und 9 = some .string} (hl sl : List Nat) {f : Fr} {h : EH} (hn : f.n = 190) (h0 : f.get 0 = some (.str hl)) (h1 : f.get 1 = some (.str sl)) (hh : h.next + 12 ≤ 549755813888) :
    ∃ f1, exec tb (N + 1) false (.region 6 ops6 true) f h = .normal f1 ⟨h.objs, h.next + 12⟩ ∧ f1.n = 190 ∧ f1.get 0 = some (.str (hl.take 250)) ∧ f1.get 1 = some (.str (sl.take 250)) ∧ (∀ t, t = 5 ∨ t = 7 → f1.get t = f.get t) := by
  have hd : ∃ d, drawAll tb (exec tb N) ops6 (Region.before ops6).toList h.next ops6.toList 0 ⟨f, ⟨h.objs, h.next + ops6.size⟩, [], [⟨h.objs, h.next + ops6.size⟩], [], []⟩ = some d ∧
      d.h = ⟨h.objs, h.next + 12⟩ ∧ d.effs = [] ∧ d.als = [] ∧ (∃ o1 f1 v1 o2 f2 v2 o3 f3 v3 o4 f4 v4, d.rds = [(8, o4, f4, v4, 0), (7, o3, f3, v3, 0), (3, o2, f2, v2, 0), (2, o1, f1, v1, 0)]) ∧ d.f.n = 190 ∧ d.f.get 0 = some (.str (hl.take 250)) ∧ d.f.get 1 = some (.str (sl.take 250)) ∧ ∀ t, t = 5 ∨ t = 7 → d.f.get t = f.get t := by
    rw [ops6_size]
    refine ⟨?d, ?run, ?rest⟩
    case run =>
      iterate 2 (apply d_pure; (· simp only [Fr.wth_n, hn, Nat.reduceLT]); (· rfl); (· simp only [op_move, ev_tmp, h0, h1, Fr.get_wth_other, Nat.reduceLT, Nat.reduceEqDiff, ne_eq, not_false_eq_true, Option.map_some] <;> rfl))
      apply d_read
      · simp only [Fr.wth_n, hn, Nat.reduceLT]
      · rfl
      · simp only [op_len, ev_tmp, Fr.get_wth_same, Nat.reduceLT, len_str s9, Option.map_some] <;> rfl
      apply d_read
      · simp only [Fr.wth_n, hn, Nat.reduceLT]
      · rfl
      · rw [op_min (a := .int .i64 (hl.length : Int)) (b := .int .i64 250) (by simp only [ev_tmp, Fr.get_wth_same, Nat.reduceLT]) rfl]
        rfl
      apply d_pure
      · simp only [Fr.wth_n, hn, Nat.reduceLT]
      · unfold kindOf; simp only [s9]
      · rw [op_slice (a := .str hl) (by simp only [ev_tmp, Fr.get_wth_same, Fr.get_wth_other, Nat.reduceLT, Nat.reduceEqDiff, ne_eq, not_false_eq_true] <;> rfl) (by simp only [ev_tmp, Fr.get_wth_same, Nat.reduceLT]; rfl), cut_str s9]
        rfl
      iterate 2 (apply d_pure; (· simp only [Fr.wth_n, hn, Nat.reduceLT]); (· rfl); (· simp only [op_move, ev_tmp, h0, h1, Fr.get_wth_other, Nat.reduceLT, Nat.reduceEqDiff, ne_eq, not_false_eq_true, Option.map_some] <;> rfl))
      apply d_read
      · simp only [Fr.wth_n, hn, Nat.reduceLT]
      · rfl
      · simp only [op_len, ev_tmp, Fr.get_wth_same, Nat.reduceLT, len_str s9, Option.map_some] <;> rfl
      apply d_read
      · simp only [Fr.wth_n, hn, Nat.reduceLT]
      · rfl
      · rw [op_min (a := .int .i64 (sl.length : Int)) (b := .int .i64 250) (by simp only [ev_tmp, Fr.get_wth_same, Nat.reduceLT]) rfl]
        rfl
      apply d_pure
      · simp only [Fr.wth_n, hn, Nat.reduceLT]
      · unfold kindOf; simp only [s9]
      · rw [op_slice (a := .str sl) (by simp only [ev_tmp, Fr.get_wth_same, Fr.get_wth_other, Nat.reduceLT, Nat.reduceEqDiff, ne_eq, not_false_eq_true] <;> rfl) (by simp only [ev_tmp, Fr.get_wth_same, Nat.reduceLT]; rfl), cut_str s9]
        rfl
      iterate 2 (apply d_pure; (· simp only [Fr.wth_n, hn, Nat.reduceLT]); (· rfl); (· simp only [op_assign, ev_tmp, Fr.get_wth_same, Fr.get_wth_other, Nat.reduceLT, Nat.reduceEqDiff, ne_eq, not_false_eq_true, Option.map_some] <;> rfl))
      exact d_nil
    case rest =>
      refine ⟨rfl, rfl, rfl, ⟨_, _, _, _, _, _, _, _, _, _, _, _, rfl⟩, ?_, ?_, ?_, ?_⟩
      · simp only [Fr.wth_n, hn]
      · simp only [Fr.get_wth_same, Fr.get_wth_other, Nat.reduceLT, Nat.reduceEqDiff, ne_eq, not_false_eq_true]
      · simp only [Fr.get_wth_same, Nat.reduceLT]
      · rintro t (rfl | rfl) <;> simp only [Fr.get_wth_other, Nat.reduceLT, Nat.reduceEqDiff, ne_eq, not_false_eq_true]
  obtain ⟨d, hd, e1, e2, e3, ⟨o1, f1, v1, o2, f2, v2, o3, f3, v3, o4, f4, v4, e4⟩, q1, q2, q3, q4⟩ := hd
  refine ⟨d.f, ?_, q1, q2, q3, q4⟩
  rw [← e1]
  refine x_draw ops6_names (by rw [ops6_size]; exact hh) hd ?_
  rw [e3, e4, e2]
  have one : ∀ (o : Oper) (i : Nat) (f : Fr) (v : EV), (List.range (([] : List Nat).reverse.length + 1)).all (steadyAt tb (Region.before ops6).toList o i f v 0 ([] : List Nat).reverse d.gs.reverse) = true := by
    intro o i f v
    show ([0] : List Nat).all _ = true
    simp only [List.all_cons, List.all_nil]
    unfold steadyAt
    simp
  simp only [List.all_nil, List.all_cons, one, Bool.and_self]
end Go.Eng

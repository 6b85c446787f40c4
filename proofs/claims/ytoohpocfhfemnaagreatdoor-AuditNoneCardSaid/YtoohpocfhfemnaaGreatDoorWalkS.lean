/- A part of the proof of AuditNone: the runs of the document's example and of the law's body, and facts of the row. Conditions: none. -/
import Derived.Test.YtoohpocfhfemnaaGreatDoorWalkR
import Derived.WalkMore
namespace Go.Proofs
open Go.Shelf Go.RowKit Go.Lib
variable {I S : Nat → Prop}
attribute [local go_sem] Oper.semAt_some
set_option maxRecDepth 1000000

theorem run_lenmap {t k e ty : TypeId} (ht : Tryz.prog.underlying t = some (.map k e)) {w : World} {b : Nat} {es : Array MapEntry} {clk : Nat} (hb : w.heap[b]? = some (.map es clk)) :
    (Builtin.len_ #[t] ty #[.map (some b)]).run Tryz.prog w = .ok (.int .i64 es.size) w := by
  unfold Builtin.len_
  simp [run_underlying ht, MapKept.run_getObj_map hb, Result.andThen, goInt]
def lenOf : Value → Nat
  | .slice _ n _ => n
  | _ => 0

set_option maxHeartbeats 16000000 in
theorem append_new (d m : Nat) (bv : Value) (l : List UInt8) (w : World) (h : DiskAt w d m none 0) (hv : BytesOff w d I bv l) (hl : l.length ≤ 1000) :
    Calls Tryz.prog 8 #[.pointer (some ⟨d, 0, none⟩), .string objS, bv] w fun e w' => e = .returned (.int .i64 0) ∧ (∃ v' cnt', DiskAt w' d m (some v') cnt' ∧ BytesOff w' d (fun k => w.heap.size ≤ k) v' l ∧ 0 ≤ cnt' ∧ cnt' ≤ 1000 ∧ v'.oneCell' = true) ∧ Turn (fun k => k = m ∨ k = d) w w' := by
  have mixed : Tryz.prog.follows .mixedOrders = true := by kernel_rfl
  obtain ⟨PO, hPO⟩ : ∃ PO : Ending → World → Prop, PO = fun e w' => e = .returned (.int .i64 0) ∧ (∃ v' cnt', DiskAt w' d m (some v') cnt' ∧ BytesOff w' d (fun k => w.heap.size ≤ k) v' l ∧ 0 ≤ cnt' ∧ cnt' ≤ 1000 ∧ v'.oneCell' = true) ∧ Turn (fun k => k = m ∨ k = d) w w' := ⟨_, rfl⟩
  rw [← hPO]
  have HPO := Hid.mk' hPO
  clear hPO
  obtain ⟨K, hK⟩ : ∃ K, K = w.heap.size := ⟨_, rfl⟩
  obtain ⟨w3, hw3⟩ : ∃ w3, w3 = ((w.alloc (.cells #[.pointer (some ⟨d, 0, none⟩)] 32)).alloc (.cells #[.string objS] 9)) := ⟨_, rfl⟩
  have hT : Turn (fun _ => False) w w3 := by rw [hw3]; exact ((Turn.refl _ _).alloc _).alloc _
  have hs3 : w3.heap.size = K + 2 := by rw [hw3, hK]; simp
  have k0 : w3.cell? ⟨K, 0, none⟩ = some (.pointer (some ⟨d, 0, none⟩)) := by rw [hw3, hK]; exact Lib.cell?_alloc_some _ (row_cell _ _ _ 0 _ rfl)
  have k1 : w3.cell? ⟨K + 1, 0, none⟩ = some (.string objS) := by
    rw [hw3, hK]
    have := row_cell (w.alloc (.cells #[.pointer (some ⟨d, 0, none⟩)] 32)) #[.string objS] 9 0 _ rfl
    rw [World.size_alloc] at this
    exact this
  have HBK : Hid (∀ b o c, bv = .slice (some ⟨b, o, none⟩) l.length c → l ≠ [] → b < w.heap.size) := fun b o c hb hn => by
    rcases hv with ⟨b', o', c', h1, h2, h3, h4, h5, h6⟩ | ⟨h1, h2⟩
    · rw [hb] at h1; cases h1; exact h4.2
    · exact absurd h2 hn
  have D3 := h.turn hT id id
  have B3 := hT.bytes hv (fun _ _ _ => id)
  have hdk : d < K := by rw [hK]; exact h.lt
  have hmk : m < K := by rw [hK]; exact h.fs.lt
  obtain ⟨ab, ac, rfl⟩ := B3.len
  have HD := Hid.mk' D3
  have HB := Hid.mk' B3
  have HT := Hid.mk' hT
  have HK := Hid.mk' hK
  have HS3 := Hid.mk' hs3
  clear h hv D3 B3 hT
  go_enter Tryz.func8, Tryz.ntmps8
  go_wp2_with (fail)
  rw [← hw3, ← hK]
  clear hw3 hK hs3
  go_step3
  go_wp2_with (fail)
  refine (may_obj w3).mono ?_
  rintro e w4 ⟨rfl, hbl4⟩
  have T4 := Turn.below (S := fun _ => False) hbl4 (fun k h1 h2 => absurd h1 (by omega))
  have HD4 := Hid.mk' (HD.out.turn T4 id id)
  have HB4 := Hid.mk' (T4.bytes HB.out (fun _ _ _ => id))
  have HT4 := Hid.mk' (HT.out.trans T4)
  have HS4 : Hid (K + 2 ≤ w4.heap.size) := by have := T4.size; have := HS3.out; show _ ≤ _; omega
  have j0 := T4.cell k0 id
  have j1 := T4.cell k1 id
  have c0 := HD4.out.c0
  have q0 : (Instr.lookup 57 (.map (some m)) (.string objS) true).run Tryz.prog w4.drew = .ok (.tuple #[.slice none 0 0, .bool false]) w4.drew := look_empty (w := w4.drew) HD4.out.fs objS true
  have hfm : w4.heap[m]? = some (.map #[] 0) := HD4.out.fs
  have hfm' : w4.drew.heap[m]? = some (.map #[] 0) := hfm
  clear T4 hbl4 k0 k1 HD HB HT HS3
  go_wp2_with (fail)
  go_region_held3 (fun W => W.cell? ⟨K, 0, none⟩ = some (.pointer (some ⟨d, 0, none⟩)) ∧ W.cell? ⟨K + 1, 0, none⟩ = some (.string objS) ∧ W.cell? ⟨d, 0, none⟩ = some (.map (some m)))
    (exact ⟨j0, j1, c0⟩) (fail)
  have HD5 : Hid (DiskAt w4.drew d m none 0) := HD4.out.turn (S := fun _ => False) ((Turn.refl _ _).drew) id id
  have HB5 : Hid (BytesOff w4.drew d I (.slice ab l.length ac) l) := ((Turn.refl (fun _ => False) w4).drew).bytes HB4.out (fun _ _ _ => id)
  have HT5 : Hid (Turn (fun _ => False) w w4.drew) := HT4.out.drew
  have HS5 : Hid (K + 2 ≤ w4.drew.heap.size) := HS4.out
  have j0' : w4.drew.cell? ⟨K, 0, none⟩ = some (.pointer (some ⟨d, 0, none⟩)) := j0
  have j1' : w4.drew.cell? ⟨K + 1, 0, none⟩ = some (.string objS) := j1
  have c0' : w4.drew.cell? ⟨d, 0, none⟩ = some (.map (some m)) := c0
  clear HD4 HB4 HT4 HS4 j0 j1 c0 hfm q0
  generalize w4.drew = w5 at *
  have hlm : (Builtin.len_ #[57] 3 #[.map (some m)]).run Tryz.prog w5 = .ok (.int .i64 (0 : Nat)) w5 := run_lenmap u57 hfm'
  have hnl : ¬ (4194304 : Int) < (l.length : Int) := by omega
  by_cases hl0 : l = []
  · subst hl0
    go_wp2_with (fail)
    refine (raw_19 d m _ _ 0 none w5 HD5.out (by omega) _ (app19 K (K + 1) d m 1 (w5.setCell ⟨d, 1, none⟩ (.int .i64 (0 + 1)))
      ((World.cell?_setCell_other _ _ _ _ (by simp)).trans j0') ((World.cell?_setCell_other _ _ _ _ (by simp)).trans j1') (HD5.out.count 1))).mono ?_
    rintro e w6 ⟨rfl, D6, T6⟩
    have HF : Hid (DiskAt w6 d m (some (.slice none 0 0)) 1 ∧ Turn (fun k => k = m ∨ k = d) w w6) := ⟨D6, (HT5.out.mono (fun _ _ h => h.elim)).trans (((Turn.refl (fun k => k = m ∨ k = d) w5).setCell (p := ⟨d, 1, none⟩) (.inr rfl) _).trans (T6.mono (fun k _ h => .inl h)))⟩
    clear D6 T6
    go_wp2_with (fail)
    rw [HPO.out]
    exact ⟨rfl, ⟨_, _, HF.out.1, .inr ⟨rfl, rfl⟩, by omega, by omega, rfl⟩, HF.out.2⟩
  · have hpos : 0 < l.length := List.length_pos_iff.2 hl0
    have hne : ((l.length : Int) == 0) = false := by simp; omega
    go_wp2_with (fail)
    obtain ⟨b, o, c, hab, hlc, hcm⟩ : ∃ b o c, Value.slice ab l.length ac = .slice (some ⟨b, o, none⟩) l.length c ∧ l.length ≤ c ∧ c ≤ maxLen := by
      rcases HB5.out with ⟨b, o, c, h1, h2, h3, _⟩ | ⟨h1, h2⟩
      · exact ⟨b, o, c, h1, h2, h3⟩
      · exact absurd h2 hl0
    cases hab
    go_step3
    go_wp2_with (fail)
    go_loopw [2] (fun s wr => ∃ (j : Nat) (x : Option Value) (cnt : Int), lenOf s = l.length - j ∧ j ≤ l.length ∧ (∃ a q, s = .slice a (l.length - j) q) ∧ (j < l.length → s = .slice (some ⟨b, o + j, none⟩) (l.length - j) (ac - j)) ∧
      (j = l.length → x ≠ none) ∧ 0 ≤ cnt ∧ cnt ≤ j ∧ DiskAt wr d m x cnt ∧ wr.ownsRow (K + 2) 5 1 (fileV x) j (u8s (l.take j)) ∧ K + 2 ≤ wr.heap.size ∧ Turn (fun k => k = m ∨ k = d ∨ K + 2 ≤ k) w5 wr) (fun s _ => lenOf s)
    case atStart =>
      exact ⟨0, none, 0, by simp [lenOf], by omega, ⟨_, _, rfl⟩, fun _ => by simp, fun h => absurd h (by omega), by omega, by omega, HD5.out, World.ownsRow_nil _ _ _ _, HS5.out, Turn.refl _ _⟩
    case round =>
      obtain ⟨j, x, cnt, hlen, hj, ⟨a, q, hs⟩, hs2, hx, hc1, hc2, D, own, hsz, T⟩ := hrel
      by_cases hlt : j < l.length
      · have hs3 := hs2 hlt
        rw [hs3]
        obtain ⟨R, hR⟩ : ∃ R, R = l.length - j := ⟨_, rfl⟩
        obtain ⟨C, hC⟩ : ∃ C, C = ac - j := ⟨_, rfl⟩
        obtain ⟨O, hO⟩ : ∃ O, O = o + j := ⟨_, rfl⟩
        rw [← hR, ← hC, ← hO]
        obtain ⟨p, hp⟩ : ∃ p, p = min R 32 := ⟨_, rfl⟩
        have hpR : (p : Int) ≤ (R : Int) := by omega
        have hpC : (p : Int) ≤ (C : Int) := by omega
        have hRC : (R : Int) ≤ (C : Int) := by omega
        have hRp : (0 : Int) < (R : Int) := by omega
        have hmin : min (R : Int) 32 = (p : Int) := by omega
        have hp0 : ¬ ((p : Int) < 0) := by omega
        have HR : Hid (R = l.length - j ∧ C = ac - j ∧ O = o + j ∧ p = min R 32) := ⟨hR, hC, hO, hp⟩
        have HJ : Hid (j < l.length ∧ j ≤ l.length ∧ l.length ≤ ac ∧ ac ≤ maxLen) := ⟨hlt, hj, hlc, hcm⟩
        have HW : Hid (0 ≤ cnt ∧ cnt ≤ j ∧ DiskAt wr d m x cnt ∧ wr.ownsRow (K + 2) 5 1 (fileV x) j (u8s (l.take j)) ∧ K + 2 ≤ wr.heap.size ∧ Turn (fun k => k = m ∨ k = d ∨ K + 2 ≤ k) w5 wr) := ⟨hc1, hc2, D, own, hsz, T⟩
        have i0 := T.cell j0' (show ¬ (K = m ∨ K = d ∨ K + 2 ≤ K) by omega)
        have i1 := T.cell j1' (show ¬ (K + 1 = m ∨ K + 1 = d ∨ K + 2 ≤ K + 1) by omega)
        have ia : ∀ ob, (wr.alloc ob).cell? ⟨K, 0, none⟩ = some (.pointer (some ⟨d, 0, none⟩)) := fun ob => Lib.cell?_alloc_some _ i0
        have HCall : ∀ cc, Calls Tryz.prog 18 #[.pointer (some ⟨d, 0, none⟩), .func (.func 20) #[] #[.pointer (some ⟨K, 0, none⟩), .pointer (some ⟨K + 1, 0, none⟩), .pointer (some ⟨wr.heap.size, 0, none⟩)]] (wr.alloc (.cells #[.slice (some ⟨b, O, none⟩) p cc] 22)) fun e w' => e = .returned (.int .i64 0) ∧
            Hid (∃ v', DiskAt w' d m (some v') (cnt + 1) ∧ w'.ownsRow (K + 2) 5 1 v' (j + p) (u8s (l.take (j + p))) ∧ K + 2 ≤ w'.heap.size ∧ Turn (fun k => k = m ∨ k = d ∨ K + 2 ≤ k) w5 w') := fun cc => by
          have TA : Turn (fun _ => False) wr (wr.alloc (.cells #[.slice (some ⟨b, O, none⟩) p cc] 22)) := (Turn.refl _ _).alloc _
          have xk : (wr.alloc (.cells #[.slice (some ⟨b, O, none⟩) p cc] 22)).cell? ⟨wr.heap.size, 0, none⟩ = some (.slice (some ⟨b, O, none⟩) p cc) := row_cell _ _ _ 0 _ rfl
          have hszA : (wr.alloc (.cells #[.slice (some ⟨b, O, none⟩) p cc] 22)).heap.size = wr.heap.size + 1 := World.size_alloc _ _
          generalize wr.alloc (.cells #[.slice (some ⟨b, O, none⟩) p cc] 22) = wA at TA xk hszA ⊢
          have DA := D.turn TA id id
          have ownA := TA.owns own (fun _ _ => id)
          have TS : Turn (fun k => k = d) wA (wA.setCell ⟨d, 1, none⟩ (.int .i64 (cnt + 1))) := (Turn.refl (fun k => k = d) wA).setCell (p := ⟨d, 1, none⟩) rfl _
          obtain ⟨l2, hl2⟩ : ∃ l2, l2 = (l.drop j).take p := ⟨_, rfl⟩
          have hl2n : l2.length = p := by rw [hl2, List.length_take, List.length_drop]; omega
          have hown' : (l.take j).length = j := by rw [List.length_take]; omega
          have hbK : b < K := by rw [HK.out]; exact HBK.out b o ac rfl hl0
          have hbm : b ≠ d := by
            rcases HB5.out with ⟨b', o', c', h1, h2, h3, h4, h5, h6⟩ | ⟨h1, h2⟩
            · cases h1; exact h5
            · exact absurd h2 hl0
          have hcell : ∀ i y, l[i]? = some y → w5.cell? ⟨b, o + i, none⟩ = some (.int .u8 (y.toNat : Int)) := by
            rcases HB5.out with ⟨b', o', c', h1, h2, h3, h4, h5, h6⟩ | ⟨h1, h2⟩
            · cases h1; exact h6
            · exact absurd h2 hl0
          have hbm2 : b ≠ m := by
            intro e
            obtain ⟨y, hy⟩ : ∃ y, l[0]? = some y := ⟨_, List.getElem?_eq_getElem hpos⟩
            have := hcell 0 y hy
            have h1 : w5.heap[m]? = some (.map #[] 0) := hfm'
            simp [World.cell?, e, h1] at this
          have hcall := raw_20 d m (.pointer (some ⟨K, 0, none⟩)) (.pointer (some ⟨K + 1, 0, none⟩)) (.pointer (some ⟨wr.heap.size, 0, none⟩)) cnt x wA DA (by omega) _
            (app20 K (K + 1) wr.heap.size d m (K + 2) b O cc x (l.take j) l2 (cnt + 1) (wA.setCell ⟨d, 1, none⟩ (.int .i64 (cnt + 1)))
              (TS.cell (TA.cell i0 id) (show ¬ K = d by omega)) (TS.cell (TA.cell i1 id) (show ¬ K + 1 = d by omega)) (TS.cell (hl2n ▸ xk) (show ¬ wr.heap.size = d by omega)) (DA.count (cnt + 1))
              (by rw [hown']; exact TS.owns ownA (fun k hk e => by have := (ownA.lt k hk).1; omega)) ⟨by omega, by omega, by simp; omega⟩
              (fun i y hy => by
                rw [hl2, List.getElem?_take] at hy
                split at hy
                · rw [List.getElem?_drop] at hy
                  have h1 := hcell (j + i) y hy
                  have h2 := TS.cell (TA.cell (T.cell h1 (show ¬ (b = m ∨ b = d ∨ K + 2 ≤ b) by omega)) id) (show ¬ b = d from hbm)
                  rw [hO, show o + j + i = o + (j + i) by omega]
                  exact h2
                · cases hy)
              (fun k hk => by have := own.lt k hk; omega) (by omega) (by omega))
          refine hcall.mono ?_
          rintro e w7 ⟨rfl, ⟨v', D7, O7⟩, T7⟩
          have htk : l.take j ++ l2 = l.take (j + p) := by rw [hl2, List.take_add]
          have hTT : Turn (fun k => k = m ∨ k = d ∨ K + 2 ≤ k) w5 w7 := ((T.mono (fun k _ h => by omega)).trans (TA.mono (fun k _ h => h.elim))).trans ((TS.mono (fun k _ h => by omega)).trans (T7.mono (fun k _ h => by omega)))
          refine ⟨rfl, v', D7, ?_, ?_, ?_⟩
          · have : (l.take j ++ l2).length = j + p := by rw [List.length_append, hown', hl2n]
            rw [htk] at O7
            rw [htk] at this
            rw [this] at O7
            exact O7
          · have := hTT.size; have := HS5.out; show _ ≤ _; omega
          · exact hTT
        clear hs3 hs2 hs hx hlen hR hC hO hp hlt hj D own hsz T hc1 hc2
        go_wp2_with (fail)
        all_goals
          refine (HCall _).mono ?_
          rintro e w6 ⟨rfl, HN⟩
          clear HCall ia i0 i1
          go_wp2_with (fail)
          obtain ⟨eR, eC, eO, ep⟩ := HR.out
          obtain ⟨g1, g2, g3, g4⟩ := HJ.out
          obtain ⟨hc1, hc2, _⟩ := HW.out
          obtain ⟨v', D7, O7, S7, T7⟩ := HN.out
          have eL : l.length - (j + p) = R - p := by omega
          refine ⟨⟨j + p, some v', cnt + 1, by simp only [lenOf]; omega, by omega, ⟨_, _, by rw [eL]⟩, fun h => ?_, fun _ => by simp, by omega, by push_cast; omega, D7, O7, S7, T7⟩, by simp only [lenOf]; omega⟩
          first
          | exact absurd h (by omega)
          | (have e1 : o + (j + p) = O + p := by omega
             have e2 : ac - (j + p) = C - p := by omega
             rw [e1, e2, eL])
      · have hjl : j = l.length := by omega
        subst hjl
        rw [hs]
        have HW : Hid (x ≠ none ∧ 0 ≤ cnt ∧ cnt ≤ l.length ∧ DiskAt wr d m x cnt ∧ wr.ownsRow (K + 2) 5 1 (fileV x) l.length (u8s (l.take l.length)) ∧ K + 2 ≤ wr.heap.size ∧ Turn (fun k => k = m ∨ k = d ∨ K + 2 ≤ k) w5 wr) := ⟨hx rfl, hc1, hc2, D, own, hsz, T⟩
        have hz : l.length - l.length = 0 := by omega
        rw [hz]
        clear hx hc1 hc2 D own hsz T hs hs2 hlen hlt hj
        go_wp2_with (fail)
        rw [HPO.out]
        obtain ⟨hx, hc1, hc2, D, own, hsz, T⟩ := HW.out
        cases x with
        | none => exact absurd rfl hx
        | some v' =>
          rw [List.take_length] at own
          have hKK := HK.out
          refine ⟨rfl, ⟨v', cnt, D, off_of_own own (by omega) (fun k h1 h2 => by omega), hc1, by omega, ?_⟩, ?_⟩
          · obtain ⟨a, c, e⟩ := slice_of_owns own
            have e' : v' = .slice a l.length c := e
            rw [e']
            rfl
          · exact ((HT5.out.mono (S' := fun k => k = m ∨ k = d ∨ K + 2 ≤ k) (fun k _ h => h.elim)).trans T).mono (fun k hk h => by omega)
end Go.Proofs

/- A part of the proof of AuditNone: the runs of the document's example and of the law's body, and facts of the row. Conditions: none. -/
import Derived.Test.YtoohpocfhfemnaaGreatDoorWalkL
import Derived.WalkMore
namespace Go.Proofs
open Go.Shelf Go.RowKit Go.Lib
variable {I S : Nat → Prop}

theorem bytesWorld_turn (w : World) (e : TypeId) (s : ByteArray) : Turn (fun _ => False) w (bytesWorld w e s) :=
  ⟨rfl, rfl, rfl, by rw [bytesWorld_size]; omega, fun k hk _ => bytesWorld_at_old w e s k hk⟩
theorem bytesWorld_bytes (w : World) (e : TypeId) (l : List UInt8) (i : Nat) (x : UInt8) (h : l[i]? = some x) : (bytesWorld w e (textOf l)).cell? ⟨w.heap.size, 0 + i, none⟩ = some (.int .u8 (x.toNat : Int)) := by
  have hi : i < l.length := (List.getElem?_eq_some_iff.1 h).1
  rw [Nat.zero_add, bytesWorld_cell w e (textOf l) i (by rw [textOf_size]; exact hi)]
  simp [textOf, List.getD, h]

set_option maxRecDepth 1000000 in
set_option maxHeartbeats 16000000 in
theorem jopen_any (d m : Nat) (cnt : Int) (v0 : Value) (l : List UInt8) (w : World) (h : DiskAt w d m (some v0) cnt) (hcnt : 0 ≤ cnt ∧ cnt ≤ 1000000) (hv : BytesOff w d I v0 l) (hl : l.length ≤ 1000000) :
    Calls Tryz.prog 21 #[.pointer (some ⟨d, 0, none⟩), .string objS] w fun e w' =>
      match recsL (l.length + 1) l [] 0 with
      | none => e = .returned (.tuple #[.pointer none, .int .i64 8]) ∧ Turn (fun k => k = m ∨ k = d) w w'
      | some (rs, sz) => ∃ j B va vp, e = .returned (.tuple #[.pointer (some ⟨j, 0, none⟩), .int .i64 0]) ∧ w.heap.size ≤ j ∧ JAt w' j d B va vp objS rs.flatten (partsOf rs 0) sz ∧
          (∃ v' cnt', DiskAt w' d m (some v') cnt' ∧ BytesOff w' d (fun k => I k ∨ w.heap.size ≤ k) v' (l.take sz)) ∧ Turn (fun k => k = m ∨ k = d) w w' := by
  have mixed : Tryz.prog.follows .mixedOrders = true := by kernel_rfl
  obtain ⟨PO, hPO⟩ : ∃ PO : Ending → World → Prop, PO = fun e w' =>
      match recsL (l.length + 1) l [] 0 with
      | none => e = .returned (.tuple #[.pointer none, .int .i64 8]) ∧ Turn (fun k => k = m ∨ k = d) w w'
      | some (rs, sz) => ∃ j B va vp, e = .returned (.tuple #[.pointer (some ⟨j, 0, none⟩), .int .i64 0]) ∧ w.heap.size ≤ j ∧ JAt w' j d B va vp objS rs.flatten (partsOf rs 0) sz ∧
          (∃ v' cnt', DiskAt w' d m (some v') cnt' ∧ BytesOff w' d (fun k => I k ∨ w.heap.size ≤ k) v' (l.take sz)) ∧ Turn (fun k => k = m ∨ k = d) w w' := ⟨_, rfl⟩
  rw [← hPO]
  have HPO := Hid.mk' hPO
  clear hPO
  have hdk : d < w.heap.size := h.lt
  have H := Hid.mk' h
  have HV := Hid.mk' hv
  clear h hv
  go_enter Tryz.func21, Tryz.ntmps21
  go_wp2_with (fail)
  go_step3
  go_wp2_with (fail)
  refine (diskread_hit d m d d cnt v0 l w H.out HV.out hl (by omega)).mono ?_
  rintro e w1 ⟨v1, rfl, hb1, hbl1⟩
  obtain ⟨a1, c1, hv1⟩ := hb1.len
  have HB1 := Hid.mk' hb1
  subst hv1
  clear hb1
  go_wp2_with (fail)
  obtain ⟨j, hj⟩ : ∃ j, j = w1.heap.size := ⟨_, rfl⟩
  obtain ⟨O, hO⟩ : ∃ O, O = Obj.cells #[.pointer (some ⟨d, 0, none⟩), .string objS, .slice none 0 0, .slice none 0 0, .int .i64 0, .bool false] 120 := ⟨_, rfl⟩
  rw [← hO, ← hj]
  have hT2 : Turn (fun _ => False) w (w1.alloc O) := (Turn.below (S := fun _ => False) hbl1 (fun k h1 h2 => by omega)).alloc O
  have hs2 : (w1.alloc O).heap.size = j + 1 := by rw [hj]; exact World.size_alloc _ _
  have hB2 : BytesOff (w1.alloc O) d (fun k => w.heap.size ≤ k) (.slice a1 l.length c1) l := ((Turn.refl (fun _ => False) w1).alloc O).bytes (HB1.out.imp fun k hk => hk.1) (fun _ _ _ => id)
  have hwj : w.heap.size ≤ j := by rw [hj]; exact hbl1.size
  have J2 : ∀ B, B = j + 1 → JAt (w1.alloc O) j d B (.slice none 0 0) (.slice none 0 0) objS [] [] 0 := fun B hB => by
    subst hB
    have hc : ∀ k v, #[.pointer (some ⟨d, 0, none⟩), .string objS, .slice none 0 0, .slice none 0 0, .int .i64 0, .bool false][k]? = some v → (w1.alloc O).cell? ⟨j, k, none⟩ = some v := fun k v hk => by rw [hj, hO]; exact row_cell _ _ _ k _ hk
    have hf : ∀ k, (w1.alloc O).frozen? ⟨j, k, none⟩ = false := fun k => by rw [hj, hO]; exact World.frozen?_alloc_at _ _ _ _ rfl
    exact ⟨hc 0 _ rfl, hc 1 _ rfl, hc 2 _ rfl, hc 3 _ rfl, hc 4 _ rfl, hc 5 _ rfl, hf 2, hf 3, hf 4, World.ownsRow_nil _ _ _ _, World.ownsRow_nil _ _ _ _, fun k h _ => by simp [Value.ownBlock] at h, Nat.lt_succ_self _, Nat.le_of_eq hs2.symm⟩
  generalize w1.alloc O = w2 at hT2 hs2 hB2 J2 ⊢
  clear hO hj HB1 hbl1
  refine (read_any d l _ w2 hB2 (by omega) (by omega)).mono ?_
  rintro e w3 ⟨r, rfl, hr0, hr1, hrd, hbl3⟩
  obtain ⟨B, hB⟩ : ∃ B, B = w3.heap.size := ⟨_, rfl⟩
  rw [← hB] at hr1 hrd
  have hT3 : Turn (fun _ => False) w w3 := hT2.trans (Turn.below (S := fun _ => False) hbl3 (fun k h1 h2 => by omega))
  have J3 : JAt w3 j d B (.slice none 0 0) (.slice none 0 0) objS [] [] 0 := by
    have J := J2 (j + 1) rfl
    have J' := J.turn (Turn.below (S := fun _ => False) hbl3 (fun k h1 h2 => by omega)) id (fun _ _ => id) (fun _ _ => id)
    exact ⟨J'.c0, J'.c1, J'.c2, J'.c3, J'.c4, J'.c5, J'.z2, J'.z3, J'.z4, World.ownsRow_nil _ _ _ _, World.ownsRow_nil _ _ _ _, fun k h _ => by simp [Value.ownBlock] at h, by omega, by omega⟩
  rw [hs2] at hr0 hrd
  have hwB : j + 1 ≤ r ∧ r < B ∧ B ≤ w3.heap.size := ⟨hr0, hr1, by omega⟩
  clear J2 hB2 hbl3 hs2 hT2 hB
  go_wp2_with (fail)
  go_step3
  go_wp2_with (fail)
  go_loopw [10] (fun _ wr => ∃ (fuel : Nat) (lr : List UInt8) (rs : List (List UInt8)) (sz : Nat) (va vp : Value), Hid (recsL fuel lr rs sz = recsL (l.length + 1) l [] 0) ∧ lr.length < fuel ∧ sz + lr.length = l.length ∧ rs.flatten.length ≤ sz ∧ rs.length ≤ sz ∧
      Rd wr r (fun k => j + 1 ≤ k ∧ k < B) lr 0 ∧ JAt wr j d B va vp objS rs.flatten (partsOf rs 0) sz ∧ Turn (fun _ => False) w wr) (fun _ wr => rdLeft wr r)
  case atStart =>
    exact ⟨l.length + 1, l, [], 0, _, _, rfl, by omega, by omega, by simp, by simp, hrd, J3, hT3⟩
  case round =>
    clear hrd J3 hT3
    obtain ⟨fuel, lr, rs, sz, va, vp, HL, hfu, hsz, hfl, hrl, hrd, J, hT⟩ := hrel
    obtain ⟨fuel, rfl⟩ : ∃ f, fuel = f + 1 := ⟨fuel - 1, by omega⟩
    have hmeas := rdLeft_eq hrd
    by_cases hlt : 0 < lr.length
    · have hlt' : (0 : Int) < (lr.length : Int) := by omega
      have HS : Hid (recsL (fuel + 1) lr rs sz = if (recF lr).2.2.2 = 110 then some (rs, sz)
      else if (recF lr).2.2.2 ≠ 0 ∨ (recF lr).2.1 ≠ hashD (recF lr).1 then none
      else recsL fuel (recF lr).2.2.1 (rs ++ [(recF lr).1]) (sz + (lr.length - (recF lr).2.2.1.length))) := by rw [recsL, if_pos hlt]; rfl
      go_wp2_with (fail)
      refine (left_any r lr 0 wr hrd).mono ?_
      rintro e w5 ⟨rfl, rfl⟩
      go_wp2_with (fail)
      refine (left_any r lr 0 w5 hrd).mono ?_
      rintro e w6 ⟨rfl, rfl⟩
      go_wp2_with (fail)
      have hleft := recF_left lr
      have htn := textF_len lr 262144 0
      unfold recF at HS hleft
      refine (text_any r 262144 lr 0 w6 hrd (by omega) (by omega)).mono ?_
      rintro e w7 ⟨rfl, hr7, ho7⟩
      generalize textF lr 262144 0 = tt at hr7 HS htn hleft ⊢
      obtain ⟨pl, l7, e7⟩ := tt
      simp only at hr7 HS htn hleft ⊢
      have J7 := J.turn (Turn.only (S := fun k => k = r) ho7 rfl) (by omega) (fun k hk e => by have := (J.oa.lt k hk).1; omega) (fun k hk e => by have := (J.op.lt k hk).1; omega)
      have hT7 : Turn (fun k => k = r) w6 w7 := Turn.only (S := fun k => k = r) ho7 rfl
      have hT8 : Turn (fun _ => False) w w7 := ((hT.mono (fun _ _ h => h.elim)).trans hT7).mono (fun k hk e => by omega)
      have hcv : (convert 9 22 (.string (textOf pl))).run Tryz.prog w7 = _ := Lib.run_convert_string_bytes w7 9 22 5 (textOf pl) u9 (by kernel_rfl) (by kernel_rfl)
      clear hrd J ho7 hT7 hT
      go_wp2_with (fail)
      have hTb := bytesWorld_turn w7 5 (textOf pl)
      have hcb : ∀ i x, pl[i]? = some x → (bytesWorld w7 5 (textOf pl)).cell? ⟨w7.heap.size, 0 + i, none⟩ = some (.int .u8 (x.toNat : Int)) := bytesWorld_bytes w7 5 pl
      have hsb : (bytesWorld w7 5 (textOf pl)).heap.size = w7.heap.size + 1 := bytesWorld_size _ _ _
      have hgc : pl.length ≤ grownCap w7 (textOf pl).size 0 5 := by have := grownCap_ge w7 (textOf pl).size 0 5; rw [textOf_size] at this ⊢; exact this
      rw [textOf_size] at hgc ⊢
      generalize grownCap w7 pl.length 0 5 = cp at hgc ⊢
      generalize bytesWorld w7 5 (textOf pl) = w8 at hTb hcb hsb ⊢
      have hr8 := hTb.rd hr7 id (fun _ _ _ => id)
      have J8 := J7.turn hTb id (fun _ _ => id) (fun _ _ => id)
      have hT9 := hT8.trans hTb
      obtain ⟨b8, hb8⟩ : ∃ b8, b8 = w7.heap.size := ⟨_, rfl⟩
      rw [← hb8] at hsb hcb ⊢
      have hBb : B ≤ b8 := by rw [hb8]; exact J7.sB
      clear hTb hr7 J7 hT8 hcv hb8
      refine (word_any r l7 e7 w8 hr8).mono ?_
      rintro e w9 ⟨rfl, hr9, ho9⟩
      generalize wordF l7 e7 = ww at hr9 HS hleft ⊢
      obtain ⟨sm, l9, e9⟩ := ww
      simp only at hr9 HS hleft ⊢
      have hT10 : Turn (fun k => k = r) w8 w9 := Turn.only (S := fun k => k = r) ho9 rfl
      have J9 := J8.turn hT10 (by omega) (fun k hk e => by have := (J8.oa.lt k hk).1; omega) (fun k hk e => by have := (J8.op.lt k hk).1; omega)
      have hT11 : Turn (fun _ => False) w w9 := ((hT9.mono (fun _ _ h => h.elim)).trans hT10).mono (fun k hk e => by omega)
      have hc9 : Hid (∀ i x, pl[i]? = some x → w9.cell? ⟨b8, 0 + i, none⟩ = some (.int .u8 (x.toNat : Int))) := fun i x hx => hT10.cell (hcb i x hx) (by show ¬ b8 = r; omega)
      have hs9 : w9.heap.size = b8 + 1 := ho9.size.trans hsb
      clear hr8 J8 hT9 hT10 ho9 hcb hsb
      go_wp2_with (fail)
      refine (err_any r l9 e9 w9 hr9).mono ?_
      rintro e w10 ⟨rfl, rfl⟩
      by_cases h110 : e9 = 110
      · subst h110
        have HN : Hid (recsL (l.length + 1) l [] 0 = some (rs, sz)) := by rw [← HL.out, HS.out, if_pos rfl]; rfl
        clear HS HL
        have HP2 := HPO.out
        rw [HN.out] at HP2
        have HP := Hid.mk' HP2
        have q4 := J9.c4
        have HJ := Hid.mk' J9
        have hT' := hT11
        have D10 := H.out.turn hT' id id
        have B10 := hT'.bytes HV.out (fun _ _ _ => id)
        have HDB := Hid.mk' (And.intro D10 B10)
        clear HP2 HN J9 D10 B10
        by_cases hq : sz < l.length
        · have hq' : (sz : Int) < (l.length : Int) := by omega
          go_wp2_with (fail)
          refine (trunc_any d m sz l v0 cnt _ HDB.out.1 hcnt HDB.out.2 hq hl).mono ?_
          rintro e w11 ⟨rfl, ⟨v', D11, B11⟩, T11⟩
          have hjm : m < w.heap.size := H.out.fs.lt
          have J11 := HJ.out.turn T11 (by omega) (fun k hk e => by have := (HJ.out.oa.lt k hk).1; omega) (fun k hk e => by have := (HJ.out.op.lt k hk).1; omega)
          have HF := Hid.mk' (And.intro J11 (And.intro D11 (And.intro (B11.off (r' := d) (fun k hk _ e => by have : _ ≤ k := hk; have := hT'.size; omega)) ((hT'.mono (fun _ _ h => h.elim)).trans T11))))
          clear J11 D11 B11 T11
          go_wp2_with (fail)
          rw [HP.out]
          exact ⟨j, B, va, vp, rfl, hwj, HF.out.1, ⟨v', _, HF.out.2.1, HF.out.2.2.1.imp (fun k hk => .inr (Nat.le_trans hT'.size hk))⟩, HF.out.2.2.2⟩
        · exact absurd hq (by omega)
      · have h110' : (e9 == 110) = false := by simpa using h110
        go_wp2_with (fail)
        refine (err_any r l9 e9 w10 hr9).mono ?_
        rintro e w11 ⟨rfl, rfl⟩
        by_cases he0 : e9 = 0
        · subst he0
          go_wp2_with (fail)
          refine (hash_any pl _ w11 (.inl ⟨b8, 0, cp, rfl, hgc, by omega, hc9.out⟩) (by omega)).mono ?_
          rintro e w12 ⟨rfl, rfl⟩
          by_cases hh : sm = hashD pl
          · have hh' : (sm == hashD pl) = true := by simpa using hh
            have hle := hleft (by first | rfl | trivial)
            have HN : Hid (recsL fuel l9 (rs ++ [pl]) (sz + (lr.length - l9.length)) = recsL (l.length + 1) l [] 0) := by rw [← HL.out, HS.out, if_neg (by decide), if_neg (by simp [hh])]; rfl
            clear HS HL hleft hh h110 h110'
            go_wp2_with (fail)
            refine (left_any r l9 0 w12 hr9).mono ?_
            rintro e w13 ⟨rfl, rfl⟩
            have hw1 : wrap64 ((lr.length : Int) - (l9.length : Int)) = ((lr.length - l9.length : Nat) : Int) := by simp only [wrap64]; omega
            have hw2 : IntKind.i64.wrap ((lr.length : Int) - (l9.length : Int)) = ((lr.length - l9.length : Nat) : Int) := by rw [IntKind.wrap_i64]; omega
            have hw3 : (lr.length : Int) - (l9.length : Int) = ((lr.length - l9.length : Nat) : Int) := by omega
            go_wp2_with (fail)
            have hpb : (rs ++ [pl]).flatten = rs.flatten ++ pl := by simp
            have hpp : partsOf (rs ++ [pl]) 0 = partsOf rs 0 ++ [(rs.flatten.length, rs.flatten.length + pl.length)] := by rw [partsOf_snoc]; simp
            refine (add_any j d B va vp objS rs.flatten pl (partsOf rs 0) sz (lr.length - l9.length) b8 0 cp w13 J9 hc9.out (by omega) (by rw [partsOf_len]; omega) (by omega)).mono ?_
            rintro e w14 ⟨rfl, hT14, va', vp', J14⟩
            rw [← hpb, ← hpp] at J14
            have hr14 := hT14.rd hr9 (by omega) (fun k hk hk2 e => by have := hk.2; omega)
            have hT15 : Turn (fun _ => False) w w14 := ((hT11.mono (fun _ _ h => h.elim)).trans hT14).mono (fun k hk e => by omega)
            have hsz14 : (rs ++ [pl]).flatten.length = rs.flatten.length + pl.length := by rw [hpb, List.length_append]
            clear hpb hpp hT14 J9 hT11 hw1 hw2 hw3 hr9
            go_wp2_with (fail)
            refine ⟨⟨fuel, l9, rs ++ [pl], sz + (lr.length - l9.length), va', vp', HN, by omega, by omega, by omega, by simp; omega, hr14, J14, hT15⟩, ?_⟩
            rw [rdLeft_eq hr14, hmeas]
            omega
          · have hh' : (sm == hashD pl) = false := by simpa using hh
            have HN : Hid (recsL (l.length + 1) l [] 0 = none) := by rw [← HL.out, HS.out, if_neg (by decide), if_pos (.inr hh)]; rfl
            have HP2 := HPO.out
            rw [HN.out] at HP2
            have HP := Hid.mk' HP2
            clear HP2 HN HS HL
            go_wp2_with (fail)
            rw [HP.out]
            exact ⟨rfl, hT11.mono (fun _ _ h => h.elim)⟩
        · have he0' : (e9 == 0) = false := by simpa using he0
          have HN : Hid (recsL (l.length + 1) l [] 0 = none) := by rw [← HL.out, HS.out, if_neg h110, if_pos (.inl he0)]; rfl
          have HP2 := HPO.out
          rw [HN.out] at HP2
          have HP := Hid.mk' HP2
          clear HP2 HN HS HL
          go_wp2_with (fail)
          rw [HP.out]
          exact ⟨rfl, hT11.mono (fun _ _ h => h.elim)⟩
    · have hge : ¬ (0 : Int) < (lr.length : Int) := by omega
      have HN : Hid (recsL (l.length + 1) l [] 0 = some (rs, sz)) := by rw [← HL.out, recsL, if_neg hlt]; rfl
      go_wp2_with (fail)
      refine (left_any r lr 0 wr hrd).mono ?_
      rintro e w5 ⟨rfl, rfl⟩
      have HP2 := HPO.out
      rw [HN.out] at HP2
      have HP := Hid.mk' HP2
      have q4 := J.c4
      have HJ := Hid.mk' J
      have hT' := hT
      have D10 := H.out.turn hT' id id
      have B10 := hT'.bytes HV.out (fun _ _ _ => id)
      have HDB := Hid.mk' (And.intro D10 B10)
      clear HP2 HN J D10 B10
      by_cases hq : sz < l.length
      · exact absurd hq (by omega)
      · have hq' : ¬ (sz : Int) < (l.length : Int) := by omega
        go_wp2_with (fail)
        rw [HP.out]
        have hz : l.take sz = l := List.take_of_length_le (by omega)
        exact ⟨j, B, va, vp, rfl, hwj, HJ.out, ⟨v0, _, HDB.out.1, by rw [hz]; exact HDB.out.2.imp (fun k hk => .inl hk)⟩, hT'.mono (fun _ _ h => h.elim)⟩
end Go.Proofs

namespace Go.Proofs
open Go.Shelf Go.RowKit Go.Lib
variable {I S : Nat → Prop}

set_option maxRecDepth 1000000 in
set_option maxHeartbeats 16000000 in
/-- The journal of a file that is not there. -/
theorem jopen_miss (d m : Nat) (cnt : Int) (x : Option Value) (s : ByteArray) (w : World) (h : DiskAt w d m x cnt) (hs : s ≠ objS ∨ x = none) :
    Calls Tryz.prog 21 #[.pointer (some ⟨d, 0, none⟩), .string s] w fun e w' => ∃ j B, e = .returned (.tuple #[.pointer (some ⟨j, 0, none⟩), .int .i64 0]) ∧ w.heap.size ≤ j ∧ JAt w' j d B (.slice none 0 0) (.slice none 0 0) s [] [] 0 ∧ Turn (fun _ => False) w w' := by
  obtain ⟨PO, hPO⟩ : ∃ PO : Ending → World → Prop, PO = fun e w' => ∃ j B, e = .returned (.tuple #[.pointer (some ⟨j, 0, none⟩), .int .i64 0]) ∧ w.heap.size ≤ j ∧ JAt w' j d B (.slice none 0 0) (.slice none 0 0) s [] [] 0 ∧ Turn (fun _ => False) w w' := ⟨_, rfl⟩
  rw [← hPO]
  have HPO := Hid.mk' hPO
  clear hPO
  have hdk : d < w.heap.size := h.lt
  have H := Hid.mk' h
  clear h
  go_enter Tryz.func21, Tryz.ntmps21
  go_wp2_with (fail)
  go_step3
  go_wp2_with (fail)
  refine (diskread_miss d m cnt x s w H.out hs).mono ?_
  rintro e w1 ⟨rfl, rfl⟩
  go_wp2_with (fail)
  obtain ⟨j, hj⟩ : ∃ j, j = w1.heap.size := ⟨_, rfl⟩
  obtain ⟨O, hO⟩ : ∃ O, O = Obj.cells #[.pointer (some ⟨d, 0, none⟩), .string s, .slice none 0 0, .slice none 0 0, .int .i64 0, .bool false] 120 := ⟨_, rfl⟩
  rw [← hO, ← hj]
  have hT2 : Turn (fun _ => False) w1 (w1.alloc O) := (Turn.refl _ _).alloc O
  have hs2 : (w1.alloc O).heap.size = j + 1 := by rw [hj]; exact World.size_alloc _ _
  have hwj : w1.heap.size ≤ j := by rw [hj]; exact Nat.le_refl _
  have J2 : ∀ B, B = j + 1 → JAt (w1.alloc O) j d B (.slice none 0 0) (.slice none 0 0) s [] [] 0 := fun B hB => by
    subst hB
    have hc : ∀ k v, #[.pointer (some ⟨d, 0, none⟩), .string s, .slice none 0 0, .slice none 0 0, .int .i64 0, .bool false][k]? = some v → (w1.alloc O).cell? ⟨j, k, none⟩ = some v := fun k v hk => by rw [hj, hO]; exact row_cell _ _ _ k _ hk
    have hf : ∀ k, (w1.alloc O).frozen? ⟨j, k, none⟩ = false := fun k => by rw [hj, hO]; exact World.frozen?_alloc_at _ _ _ _ rfl
    exact ⟨hc 0 _ rfl, hc 1 _ rfl, hc 2 _ rfl, hc 3 _ rfl, hc 4 _ rfl, hc 5 _ rfl, hf 2, hf 3, hf 4, World.ownsRow_nil _ _ _ _, World.ownsRow_nil _ _ _ _, fun k h _ => by simp [Value.ownBlock] at h, Nat.lt_succ_self _, Nat.le_of_eq hs2.symm⟩
  generalize w1.alloc O = w2 at hT2 hs2 J2 ⊢
  clear hO hj
  refine (read_any (I := fun _ => True) d [] _ w2 (.inr ⟨rfl, rfl⟩) (by omega) (by simp)).mono ?_
  rintro e w3 ⟨r, rfl, hr0, hr1, hrd, hbl3⟩
  obtain ⟨B, hB⟩ : ∃ B, B = w3.heap.size := ⟨_, rfl⟩
  rw [← hB] at hr1 hrd
  have hT3 : Turn (fun _ => False) w1 w3 := hT2.trans (Turn.below (S := fun _ => False) hbl3 (fun k h1 h2 => by omega))
  have J3 : JAt w3 j d B (.slice none 0 0) (.slice none 0 0) s [] [] 0 := by
    have J := J2 (j + 1) rfl
    have J' := J.turn (Turn.below (S := fun _ => False) hbl3 (fun k h1 h2 => by omega)) id (fun _ _ => id) (fun _ _ => id)
    exact ⟨J'.c0, J'.c1, J'.c2, J'.c3, J'.c4, J'.c5, J'.z2, J'.z3, J'.z4, World.ownsRow_nil _ _ _ _, World.ownsRow_nil _ _ _ _, fun k h _ => by simp [Value.ownBlock] at h, by omega, by omega⟩
  have HF := Hid.mk' (And.intro hT3 J3)
  have q4 := J3.c4
  clear J2 hbl3 hs2 hT2 hB hT3 J3
  go_wp2_with (fail)
  go_step3
  go_wp2_with (fail)
  refine wp_loop_once ?_
  go_wp2_with (fail)
  refine (left_any r [] 0 w3 hrd).mono ?_
  rintro e w4 ⟨rfl, rfl⟩
  simp only [List.length_nil]
  go_wp2_with (fail)
  rw [HPO.out]
  exact ⟨j, B, rfl, hwj, HF.out.2, HF.out.1⟩
end Go.Proofs

namespace Go.Proofs
open Go.Shelf Go.RowKit Go.Lib
variable {I S : Nat → Prop}

theorem partsOf_get : ∀ (rs : List (List UInt8)) (b k : Nat) (x : List UInt8), rs[k]? = some x → (partsOf rs b)[k]? = some (b + (rs.take k).flatten.length, b + (rs.take k).flatten.length + x.length)
  | [], b, k, x, h => by simp at h
  | y :: rs, b, 0, x, h => by
    obtain rfl : y = x := by simpa using h
    simp [partsOf]
  | y :: rs, b, k + 1, x, h => by
    have ih := partsOf_get rs (b + y.length) k x (by simpa using h)
    simp only [partsOf, List.getElem?_cons_succ, ih, List.take_succ_cons, List.flatten_cons, List.length_append]
    rw [Nat.add_assoc]
theorem partCells_get : ∀ (ps : List (Nat × Nat)) (i : Nat) (p : Nat × Nat), ps[i]? = some p → (partCells ps)[i * 2]? = some (.int .i64 p.1) ∧ (partCells ps)[i * 2 + 1]? = some (.int .i64 p.2)
  | [], i, x, h => by simp at h
  | y :: ps, 0, x, h => by
    obtain rfl : y = x := by simpa using h
    exact ⟨rfl, rfl⟩
  | y :: ps, i + 1, x, h => by
    have ih := partCells_get ps i x (by simpa using h)
    have e : partCells (y :: ps) = .int .i64 y.1 :: .int .i64 y.2 :: partCells ps := rfl
    have e0 : (i + 1) * 2 = i * 2 + 2 := by omega
    rw [e, e0]
    exact ih
theorem flat_mid : ∀ (rs : List (List UInt8)) (k : Nat) (x : List UInt8), rs[k]? = some x → ∃ t, rs.flatten = (rs.take k).flatten ++ (x ++ t)
  | [], k, x, h => by simp at h
  | y :: rs, 0, x, h => by
    obtain rfl : y = x := by simpa using h
    exact ⟨rs.flatten, by simp⟩
  | y :: rs, k + 1, x, h => by
    obtain ⟨t, ht⟩ := flat_mid rs k x (by simpa using h)
    exact ⟨t, by simp [ht]⟩

set_option maxRecDepth 1000000 in
set_option maxHeartbeats 8000000 in
theorem payload_any (j d B : Nat) (va vp : Value) (f : ByteArray) (rs : List (List UInt8)) (sz k : Nat) (x : List UInt8) (w : World) (h : JAt w j d B va vp f rs.flatten (partsOf rs 0) sz) (hx : rs[k]? = some x) (hl : rs.flatten.length ≤ 1000000) (hr : rs.length ≤ 1000000) :
    Calls Tryz.prog 55 #[.pointer (some ⟨j, 0, none⟩), .int .i64 k] w fun e w' => ∃ v', e = .returned v' ∧ BytesOff w' 0 (fun k => w.heap.size ≤ k ∧ k < w'.heap.size) v' x ∧ Below w.heap.size w w' := by
  have mixed : Tryz.prog.follows .mixedOrders = true := by kernel_rfl
  obtain ⟨t, ht⟩ := flat_mid rs k x hx
  have hp := partsOf_get rs 0 k x hx
  have hk : k < rs.length := (List.getElem?_eq_some_iff.1 hx).1
  simp only [Nat.zero_add] at hp
  have hlen : (rs.take k).flatten.length + x.length ≤ rs.flatten.length := by rw [ht]; simp
  have hpl := partsOf_len rs 0
  generalize partsOf rs 0 = ps at h hp hpl
  generalize hA : (rs.take k).flatten = A at ht hp hlen
  generalize rs.flatten = all at h ht hl hlen
  generalize hao : A.length = ao at hp hlen
  clear hA
  obtain ⟨pc0, pc1⟩ := partCells_get ps k _ hp
  simp only at pc0 pc1
  obtain ⟨gp, qp, rfl⟩ : ∃ g q, vp = .slice (some ⟨g, 0, none⟩) ps.length q := by
    rcases h.op.2 with ⟨_, hn⟩ | ⟨g, q, _, rfl, _⟩
    · omega
    · exact ⟨_, _, rfl⟩
  have p0 := h.op.cells (g := gp) rfl _ _ pc0
  have p1 := h.op.cells (g := gp) rfl _ _ pc1
  rw [Addr.add_lit, Nat.zero_add] at p0 p1
  have c2 := h.c2
  have c3 := h.c3
  have hkl : (k : Int) < (ps.length : Int) := by omega
  have HJ := Hid.mk' h
  obtain ⟨X, hX⟩ : ∃ X, X = w.heap.size := ⟨_, rfl⟩
  have hjX : j < X := by rw [hX]; exact Nat.lt_of_lt_of_le h.jB h.sB
  have ho := h.oa
  obtain ⟨ho1, ho2⟩ := ho
  rcases ho2 with ⟨hv, hn⟩ | ⟨g, cap, cur, hv, hg, hh, hc, hm, hs, htk⟩
  · subst hv
    have hx0 : x.length = 0 := by omega
    have ha0 : ao = 0 := by omega
    subst ha0
    obtain rfl := List.eq_nil_of_length_eq_zero hx0
    have hbv : BytesOff w j (fun _ => True) (.slice none 0 0) [] := .inr ⟨rfl, rfl⟩
    have hall : all = [] := List.eq_nil_of_length_eq_zero hn
    subst hall
    clear h ht
    go_enter Tryz.func55, Tryz.ntmps55
    go_wp2_with (fail)
    rw [← hX]
    have hT : Turn (fun _ => False) w (w.alloc (Obj.cells #[Value.int IntKind.i64 0, Value.int IntKind.i64 0] 191)) := (Turn.refl _ _).alloc _
    have x0 : (w.alloc (Obj.cells #[Value.int IntKind.i64 0, Value.int IntKind.i64 0] 191)).cell? ⟨X, 0, none⟩ = some (.int .i64 0) := by rw [hX]; exact row_cell _ _ _ 0 _ rfl
    have x1 : (w.alloc (Obj.cells #[Value.int IntKind.i64 0, Value.int IntKind.i64 0] 191)).cell? ⟨X, 1, none⟩ = some (.int .i64 0) := by rw [hX]; exact row_cell _ _ _ 1 _ rfl
    have hWs : (w.alloc (Obj.cells #[Value.int IntKind.i64 0, Value.int IntKind.i64 0] 191)).heap.size = X + 1 := by rw [hX]; exact World.size_alloc _ _
    have y2 := hT.cell c2 id
    have HBV := Hid.mk' (hT.bytes (I := fun _ => True) (r := j) hbv (fun _ _ _ => id))
    have HBl : Below w.heap.size w (w.alloc (Obj.cells #[Value.int IntKind.i64 0, Value.int IntKind.i64 0] 191)) := (Below.refl _ _).alloc (Nat.le_refl _) _
    generalize w.alloc (Obj.cells #[Value.int IntKind.i64 0, Value.int IntKind.i64 0] 191) = W at hT x0 x1 hWs y2 HBV HBl ⊢
    have HX := Hid.mk' hX
    have HWs := Hid.mk' hWs
    clear hX hWs hbv c2 c3 p0 p1 pc0 pc1 hp
    go_region_held3 (fun w' => w'.cell? ⟨j, 2, none⟩ = some (.slice none 0 0) ∧ w'.cell? ⟨X, 0, none⟩ = some (.int .i64 0) ∧ w'.cell? ⟨X, 1, none⟩ = some (.int .i64 0))
      (first | exact ⟨y2, x0, x1⟩ | exact S9.out)
      (first
      | (go_at_call 26; refine (clone_any (I := fun _ => True) j 0 [] _ W.drew HBV.out (by have := HWs.out; show 0 < W.heap.size; omega) (by simp)).mono ?_
         rintro e w9 ⟨v9, rfl, hb9, hbl0⟩
         obtain ⟨a9, q9, hv9⟩ := hb9.len
         obtain ⟨N9, hN9⟩ : ∃ N9, N9 = ([] : List UInt8).length := ⟨_, rfl⟩
         rw [← hN9] at hv9
         subst hv9
         have hbl9 : Below W.heap.size W w9 := below_drew hbl0
         have S9 := Hid.mk' (And.intro ((hbl9.cell (p := ⟨j, 2, none⟩) (by have := HWs.out; show j < W.heap.size; omega)).trans y2) (And.intro ((hbl9.cell (p := ⟨X, 0, none⟩) (by have := HWs.out; show X < W.heap.size; omega)).trans x0) ((hbl9.cell (p := ⟨X, 1, none⟩) (by have := HWs.out; show X < W.heap.size; omega)).trans x1)))
         have Z := Hid.mk' (And.intro hb9 hbl9)
         clear hN9 hb9 hbl9 hbl0))
    go_wp2_with (fail)
    go_ret
    exact ⟨_, rfl, Z.out.1.imp (fun k hk => ⟨by have : W.heap.size ≤ k := hk.1; have := HWs.out; have := HX.out; omega, hk.2⟩), HBl.trans (Z.out.2.mono (by have := HWs.out; have := HX.out; omega))⟩
  · subst hv
    have hcells := h.oa.cells (g := g) rfl
    have hgl : g < w.heap.size := (Array.getElem?_eq_some_iff.1 hh).1
    have hgj : g ≠ j := by have := h.jB; omega
    have hval : ∀ i y, x[i]? = some y → w.cell? ⟨g, ao + i, none⟩ = some (.int .u8 (y.toNat : Int)) := fun i y hy => by
      have hi : i < x.length := (List.getElem?_eq_some_iff.1 hy).1
      have := hcells (ao + i) (.int .u8 (y.toNat : Int)) (by
        rw [u8s, List.getElem?_map, ht, List.getElem?_append_right (by omega), show ao + i - A.length = i by omega, List.getElem?_append_left hi, hy]
        rfl)
      rwa [Addr.add_lit, Nat.zero_add] at this
    have e1 : (ao : Int) ≤ (ao : Int) + (x.length : Int) := by omega
    have e2 : (ao : Int) + (x.length : Int) ≤ (cap : Int) := by omega
    have e3 : ((ao : Int) + (x.length : Int)).toNat = ao + x.length := by omega
    have e4 : ao + x.length - ao = x.length := by omega
    have e5 : (0 : Int) ≤ (ao : Int) + (x.length : Int) := by omega
    by_cases hcap : cap = ao
    · have hx0 : x.length = 0 := by omega
      have hbv : BytesOff w j (fun _ => True) (.slice (some ⟨g, 0, none⟩) x.length 0) x := .inl ⟨g, 0, 0, rfl, by omega, by unfold maxLen; omega, ⟨trivial, hgl⟩, hgj, fun i y hy => by have := (List.getElem?_eq_some_iff.1 hy).1; omega⟩
      have e2' : (ao : Int) + (x.length : Int) ≤ (ao : Int) := by omega
      have e6 : (x.length : Int) ≤ 0 := by omega
      clear h ht hh htk hcells hval hx0
      go_enter Tryz.func55, Tryz.ntmps55
      go_wp2_with (fail)
      rw [← hX]
      have hT : Turn (fun _ => False) w (w.alloc (Obj.cells #[Value.int IntKind.i64 ↑ao, Value.int IntKind.i64 (↑ao + ↑x.length)] 191)) := (Turn.refl _ _).alloc _
      have x0 : (w.alloc (Obj.cells #[Value.int IntKind.i64 ↑ao, Value.int IntKind.i64 (↑ao + ↑x.length)] 191)).cell? ⟨X, 0, none⟩ = some (.int .i64 ao) := by rw [hX]; exact row_cell _ _ _ 0 _ rfl
      have x1 : (w.alloc (Obj.cells #[Value.int IntKind.i64 ↑ao, Value.int IntKind.i64 (↑ao + ↑x.length)] 191)).cell? ⟨X, 1, none⟩ = some (.int .i64 ((ao : Int) + (x.length : Int))) := by rw [hX]; exact row_cell _ _ _ 1 _ rfl
      have hWs : (w.alloc (Obj.cells #[Value.int IntKind.i64 ↑ao, Value.int IntKind.i64 (↑ao + ↑x.length)] 191)).heap.size = X + 1 := by rw [hX]; exact World.size_alloc _ _
      have y2 := hT.cell c2 id
      have HBV := Hid.mk' (hT.bytes (I := fun _ => True) (r := j) hbv (fun _ _ _ => id))
      have HBl : Below w.heap.size w (w.alloc (Obj.cells #[Value.int IntKind.i64 ↑ao, Value.int IntKind.i64 (↑ao + ↑x.length)] 191)) := (Below.refl _ _).alloc (Nat.le_refl _) _
      generalize w.alloc (Obj.cells #[Value.int IntKind.i64 ↑ao, Value.int IntKind.i64 (↑ao + ↑x.length)] 191) = W at hT x0 x1 hWs y2 HBV HBl ⊢
      have HX := Hid.mk' hX
      have HWs := Hid.mk' hWs
      clear hX hWs hbv c2 c3 p0 p1 pc0 pc1 hp
      go_region_held3 (fun w' => w'.cell? ⟨j, 2, none⟩ = some (.slice (some ⟨g, 0, none⟩) all.length cap) ∧ w'.cell? ⟨X, 0, none⟩ = some (.int .i64 ao) ∧ w'.cell? ⟨X, 1, none⟩ = some (.int .i64 ((ao : Int) + (x.length : Int))))
        (first | exact ⟨y2, x0, x1⟩ | exact S9.out)
        (first
        | (go_at_call 26; refine (clone_any (I := fun _ => True) j 0 x _ W.drew HBV.out (by have := HWs.out; show 0 < W.heap.size; omega) (by omega)).mono ?_
           rintro e w9 ⟨v9, rfl, hb9, hbl0⟩
           obtain ⟨a9, q9, hv9⟩ := hb9.len
           obtain ⟨N9, hN9⟩ : ∃ N9, N9 = x.length := ⟨_, rfl⟩
           rw [← hN9] at hv9
           subst hv9
           have hbl9 : Below W.heap.size W w9 := below_drew hbl0
           have S9 := Hid.mk' (And.intro ((hbl9.cell (p := ⟨j, 2, none⟩) (by have := HWs.out; show j < W.heap.size; omega)).trans y2) (And.intro ((hbl9.cell (p := ⟨X, 0, none⟩) (by have := HWs.out; show X < W.heap.size; omega)).trans x0) ((hbl9.cell (p := ⟨X, 1, none⟩) (by have := HWs.out; show X < W.heap.size; omega)).trans x1)))
           have Z := Hid.mk' (And.intro hb9 hbl9)
           clear hN9 hb9 hbl9 hbl0))
      go_wp2_with (fail)
      go_ret
      exact ⟨_, rfl, Z.out.1.imp (fun k hk => ⟨by have : W.heap.size ≤ k := hk.1; have := HWs.out; have := HX.out; omega, hk.2⟩), HBl.trans (Z.out.2.mono (by have := HWs.out; have := HX.out; omega))⟩
    · have hbv : BytesOff w j (fun _ => True) (.slice (some ⟨g, ao, none⟩) x.length (cap - ao)) x := .inl ⟨g, ao, cap - ao, rfl, by omega, by omega, ⟨trivial, hgl⟩, hgj, hval⟩
      clear h ht hh htk hcells hval
      go_enter Tryz.func55, Tryz.ntmps55
      go_wp2_with (fail)
      rw [← hX]
      have hT : Turn (fun _ => False) w (w.alloc (Obj.cells #[Value.int IntKind.i64 ↑ao, Value.int IntKind.i64 (↑ao + ↑x.length)] 191)) := (Turn.refl _ _).alloc _
      have x0 : (w.alloc (Obj.cells #[Value.int IntKind.i64 ↑ao, Value.int IntKind.i64 (↑ao + ↑x.length)] 191)).cell? ⟨X, 0, none⟩ = some (.int .i64 ao) := by rw [hX]; exact row_cell _ _ _ 0 _ rfl
      have x1 : (w.alloc (Obj.cells #[Value.int IntKind.i64 ↑ao, Value.int IntKind.i64 (↑ao + ↑x.length)] 191)).cell? ⟨X, 1, none⟩ = some (.int .i64 ((ao : Int) + (x.length : Int))) := by rw [hX]; exact row_cell _ _ _ 1 _ rfl
      have hWs : (w.alloc (Obj.cells #[Value.int IntKind.i64 ↑ao, Value.int IntKind.i64 (↑ao + ↑x.length)] 191)).heap.size = X + 1 := by rw [hX]; exact World.size_alloc _ _
      have y2 := hT.cell c2 id
      have HBV := Hid.mk' (hT.bytes (I := fun _ => True) (r := j) hbv (fun _ _ _ => id))
      have HBl : Below w.heap.size w (w.alloc (Obj.cells #[Value.int IntKind.i64 ↑ao, Value.int IntKind.i64 (↑ao + ↑x.length)] 191)) := (Below.refl _ _).alloc (Nat.le_refl _) _
      generalize w.alloc (Obj.cells #[Value.int IntKind.i64 ↑ao, Value.int IntKind.i64 (↑ao + ↑x.length)] 191) = W at hT x0 x1 hWs y2 HBV HBl ⊢
      have HX := Hid.mk' hX
      have HWs := Hid.mk' hWs
      clear hX hWs hbv c2 c3 p0 p1 pc0 pc1 hp
      go_region_held3 (fun w' => w'.cell? ⟨j, 2, none⟩ = some (.slice (some ⟨g, 0, none⟩) all.length cap) ∧ w'.cell? ⟨X, 0, none⟩ = some (.int .i64 ao) ∧ w'.cell? ⟨X, 1, none⟩ = some (.int .i64 ((ao : Int) + (x.length : Int))))
        (first | exact ⟨y2, x0, x1⟩ | exact S9.out)
        (first
        | (go_at_call 26; refine (clone_any (I := fun _ => True) j 0 x _ W.drew HBV.out (by have := HWs.out; show 0 < W.heap.size; omega) (by omega)).mono ?_
           rintro e w9 ⟨v9, rfl, hb9, hbl0⟩
           obtain ⟨a9, q9, hv9⟩ := hb9.len
           obtain ⟨N9, hN9⟩ : ∃ N9, N9 = x.length := ⟨_, rfl⟩
           rw [← hN9] at hv9
           subst hv9
           have hbl9 : Below W.heap.size W w9 := below_drew hbl0
           have S9 := Hid.mk' (And.intro ((hbl9.cell (p := ⟨j, 2, none⟩) (by have := HWs.out; show j < W.heap.size; omega)).trans y2) (And.intro ((hbl9.cell (p := ⟨X, 0, none⟩) (by have := HWs.out; show X < W.heap.size; omega)).trans x0) ((hbl9.cell (p := ⟨X, 1, none⟩) (by have := HWs.out; show X < W.heap.size; omega)).trans x1)))
           have Z := Hid.mk' (And.intro hb9 hbl9)
           clear hN9 hb9 hbl9 hbl0))
      go_wp2_with (fail)
      go_ret
      exact ⟨_, rfl, Z.out.1.imp (fun k hk => ⟨by have : W.heap.size ≤ k := hk.1; have := HWs.out; have := HX.out; omega, hk.2⟩), HBl.trans (Z.out.2.mono (by have := HWs.out; have := HX.out; omega))⟩
end Go.Proofs

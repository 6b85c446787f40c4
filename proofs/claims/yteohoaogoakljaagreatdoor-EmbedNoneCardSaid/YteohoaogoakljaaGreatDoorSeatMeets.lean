/- A part of the proof of EmbedNoneCardSaid: the program's tables as the interpreter reads them, and the library's functions at this program. Conditions: none. -/
import Derived.Test.YteohoaogoakljaaGreatDoorMeetsD
import Derived.Test.YteohoaogoakljaaGreatDoorEngK
namespace Go.Eng
open Go

theorem mw0 : MW tb0 where
  u58 := by kernel_rfl
  s5 := by kernel_rfl
  u5 := by kernel_rfl
  u22 := by kernel_rfl
  u154 := by kernel_rfl
  s154 := by kernel_rfl
  u45 := by kernel_rfl
  u44 := by kernel_rfl
  u23 := by kernel_rfl
  s45 := by kernel_rfl
  s44 := by kernel_rfl
  s23 := by kernel_rfl
  s58 := by kernel_rfl
  z23 := by kernel_rfl
  z58 := by kernel_rfl
  i23 := ⟨_, (by kernel_rfl : tb0.inf 23 = some Go.Proofs.Tryz.t23), by kernel_rfl, of_decide_eq_true (by kernel_rfl)⟩
  i58 := ⟨_, (by kernel_rfl : tb0.inf 63 = some Go.Proofs.Tryz.t63), by kernel_rfl, of_decide_eq_true (by kernel_rfl)⟩
  z154 := by kernel_rfl
  i31 := rfl
  f31 := by kernel_rfl
  i12 := rfl
  f12 := by kernel_rfl
  i111 := rfl
  f111 := by kernel_rfl
  i47 := rfl
  f47 := by kernel_rfl

theorem fold_rec (g : Nat → Nat → Nat) (l : List Nat) (a : Nat) : (List.rec (motive := fun _ => Nat → Nat) (fun a => a) (fun b _ ih a => ih (g a b)) l : Nat → Nat) a = l.foldl g a := by
  induction l generalizing a with
  | nil => rfl
  | cons b l ih => rw [List.foldl_cons]; exact ih (g a b)
theorem fnvF_eq (l : List Nat) (a : Nat) : fnvF l a = fnvL l a := fold_rec fstep l a
theorem natId (n : Nat) : (Nat.rec (motive := fun _ => Nat) 0 (fun m _ => Nat.succ m) n) = n := by cases n <;> rfl
theorem fnv_rec (K : Nat) (l : List Nat) : (Nat.rec (motive := fun _ => Nat) 0 (fun m _ => Nat.succ m) (fnvF l K)) = fnvL l K := (natId _).trans (fnvF_eq l K)
theorem idF_eq (l : List Nat) : idF l = idOf l := by
  unfold idF idOf
  exact fnv_rec 14695981039346656037 l
theorem idsF_eq (l : List (List Nat)) : idsF l = l.map idOf := by
  induction l with
  | nil => rfl
  | cons r l ih => show idF r :: idsF l = _; rw [ih, idF_eq]; rfl

theorem byteF_eq {e : EV} {m : Nat} (h : byteF e = some m) : e = .int .u8 ((m : Nat) : Int) ∧ m < 256 := by
  unfold byteF at h
  rw [onInt_eq] at h
  cases e <;> first | (cases h; done) | skip
  rename_i k n
  cases k <;> first | (cases h; done) | skip
  cases n with
  | negSucc _ => cases h
  | ofNat b =>
    have h' : (Bool.rec none (some b) (Nat.ble (Nat.succ b) 256) : Option Nat) = some m := h
    cases hb : Nat.ble (Nat.succ b) 256 with
    | false => rw [hb] at h'; cases h'
    | true =>
      rw [hb] at h'
      cases h'
      exact ⟨rfl, Nat.le_of_ble_eq_true hb⟩

theorem mapO_spec {α β : Type} {g : α → Option β} : ∀ {l : List α} {bs : List β}, mapO g l = some bs → l.length = bs.length ∧ ∀ j (h1 : j < l.length) (h2 : j < bs.length), g l[j] = some bs[j] := by
  intro l
  induction l with
  | nil => intro bs h; cases h; exact ⟨rfl, fun j h1 => by simp at h1⟩
  | cons a l ih =>
    intro bs h
    have h' : (Option.rec none (fun b => Option.rec none (fun bs => some (b :: bs)) (mapO g l)) (g a) : Option (List β)) = some bs := h
    cases ha : g a with
    | none => rw [ha] at h'; cases h'
    | some b =>
      rw [ha] at h'
      cases hl : mapO g l with
      | none => rw [hl] at h'; cases h'
      | some cs =>
        rw [hl] at h'
        cases h'
        obtain ⟨i1, i2⟩ := ih hl
        refine ⟨by simp [i1], fun j h1 h2 => ?_⟩
        cases j with
        | zero => exact ha
        | succ j => exact i2 j (by simpa using h1) (by simpa using h2)

theorem cellsF_spec {β : Type} {h : EH} {g : EV → Option β} {v : EV} {bs : List β} (hc : cellsF h g v = some bs) :
    ∃ b off cap, v = .slice b off bs.length cap 1 ∧ ∀ j (hj : j < bs.length), ∃ e, h.cell b (off + j) = some e ∧ g e = some bs[j] := by
  unfold cellsF at hc
  rw [onSlice_eq] at hc
  cases v <;> first | (cases hc; done) | skip
  rename_i n off len cap es
  simp only [EH.readK_eq] at hc
  cases he : Nat.beq es 1 with
  | false => rw [he] at hc; cases hc
  | true =>
    rw [he] at hc
    have := Nat.eq_of_beq_eq_true he
    subst this
    cases hr : h.read n off len with
    | none => rw [hr] at hc; cases hc
    | some l =>
      rw [hr] at hc
      have hm : mapO g l = some bs := hc
      obtain ⟨m1, m2⟩ := mapO_spec hm
      obtain ⟨t, e, vr, hg, hrd⟩ := EH.read_row hr
      obtain ⟨r1, r2⟩ := readFrom_get hrd
      have hlen : len = bs.length := by omega
      subst hlen
      refine ⟨n, off, cap, rfl, fun j hj => ⟨l[j], ?_, m2 j (by omega) hj⟩⟩
      refine cell_of hg ?_
      rw [r2 j hj, List.getElem?_eq_getElem (by omega)]

theorem rowB_spec {h : EH} {v : EV} {bs : List Nat} (hc : cellsF h byteF v = some bs) : BytesAt h v bs := by
  obtain ⟨b, off, cap, e, hj⟩ := cellsF_spec hc
  refine ⟨fun x hx => ?_, b, off, cap, e, fun j hjl => ?_⟩
  · obtain ⟨j, hjl, rfl⟩ := List.getElem_of_mem hx
    obtain ⟨_, _, h2⟩ := hj j hjl
    exact (byteF_eq h2).2
  · obtain ⟨e, h1, h2⟩ := hj j hjl
    rw [h1, (byteF_eq h2).1]

theorem eqRow_spec : ∀ {a b : List Nat}, eqRow a b = true → a = b := by
  intro a
  induction a with
  | nil => intro b h; cases b with
    | nil => rfl
    | cons y t => cases h
  | cons x a ih =>
    intro b h
    cases b with
    | nil => cases h
    | cons y t =>
      have h' : (Bool.rec false (eqRow a t) (Nat.beq x y) : Bool) = true := h
      cases hb : Nat.beq x y with
      | false => rw [hb] at h'; cases h'
      | true =>
        rw [hb] at h'
        rw [Nat.eq_of_beq_eq_true hb, ih h']

theorem likeF_spec {i : Nat} {r : List Nat} : ∀ {l : List Nat} {rs : List (List Nat)}, likeF i r l rs = true → ∀ j (h1 : j < l.length) (h2 : j < rs.length), i = l[j] → r = rs[j] := by
  intro l
  induction l with
  | nil => intro rs _ j h1; simp at h1
  | cons a l ih =>
    intro rs h j h1 h2 e
    cases rs with
    | nil => cases h
    | cons s t =>
      have h' : (Bool.rec (likeF i r l t) (Bool.rec false (likeF i r l t) (eqRow r s)) (Nat.beq i a) : Bool) = true := h
      cases hb : Nat.beq i a with
      | false =>
        rw [hb] at h'
        cases j with
        | zero =>
          have e' : i = a := e
          subst e'
          rw [show Nat.beq i i = true from by simp] at hb
          cases hb
        | succ j => exact ih h' j (by simpa using h1) (by simpa using h2) e
      | true =>
        rw [hb] at h'
        cases hr : eqRow r s with
        | false => rw [hr] at h'; cases h'
        | true =>
          rw [hr] at h'
          cases j with
          | zero => exact eqRow_spec hr
          | succ j => exact ih h' j (by simpa using h1) (by simpa using h2) e

theorem okIds_spec : ∀ {l : List Nat} {rs : List (List Nat)}, okIds l rs = true → (∀ x ∈ l, x ≠ 0) ∧ ∀ i j (h1 : i < l.length) (h2 : j < l.length) (h3 : i < rs.length) (h4 : j < rs.length), i < j → l[i] = l[j] → rs[i] = rs[j] := by
  intro l
  induction l with
  | nil => intro rs _; exact ⟨fun x hx => (by cases hx), fun i j h1 => by simp at h1⟩
  | cons a l ih =>
    intro rs h
    cases rs with
    | nil => cases h
    | cons r rt =>
      have h' : (Bool.rec false (Bool.rec (okIds l rt) false (Nat.beq a 0)) (likeF a r l rt) : Bool) = true := h
      cases hn : likeF a r l rt with
      | false => rw [hn] at h'; cases h'
      | true =>
        rw [hn] at h'
        cases hz : Nat.beq a 0 with
        | true => rw [hz] at h'; cases h'
        | false =>
          rw [hz] at h'
          obtain ⟨i1, i2⟩ := ih h'
          refine ⟨fun x hx => ?_, fun i j h1 h2 h3 h4 hij e => ?_⟩
          · rcases List.mem_cons.1 hx with rfl | hx
            · intro e; subst e; cases hz
            · exact i1 x hx
          · cases j with
            | zero => omega
            | succ j => cases i with
              | zero => exact likeF_spec hn j (by simpa using h2) (by simpa using h4) e
              | succ i => exact i2 i j (by simpa using h1) (by simpa using h2) (by simpa using h3) (by simpa using h4) (by omega) e

theorem shortF_spec : ∀ {l : List (List Nat)}, shortF l = true → ∀ r ∈ l, r.length ≤ 1000 := by
  intro l
  induction l with
  | nil => intro _ r hr; cases hr
  | cons a l ih =>
    intro h r hr
    have h' : (Bool.rec false (shortF l) (Nat.ble a.length 1000) : Bool) = true := h
    cases hb : Nat.ble a.length 1000 with
    | false => rw [hb] at h'; cases h'
    | true =>
      rw [hb] at h'
      rcases List.mem_cons.1 hr with rfl | hr
      · exact Nat.le_of_ble_eq_true hb
      · exact ih h' r hr

/-- The intrinsic Meets is what the program's Meets is. -/
theorem meetsI_ok {P : Program} (ht : FnOk P tb0) : ∀ (args : List EV) (h : EH) (v : EV) (h' : EH), meetsI args h = some (v, h') → ∀ (ρ : Ren) (w : World) (args' : Array Value), Rel P ρ h w → VRels ρ args args'.toList → CallOk P 16 args' w (CPost P ρ h w v h') := by
  intro args h v h' hm ρ w args' hr ha
  unfold meetsI at hm
  split at hm
  · rename_i x
    cases hrs : rowsF h x with
    | none => rw [hrs] at hm; cases hm
    | some rs =>
      rw [hrs] at hm
      simp only at hm
      cases h1 : okIds (idsF rs) rs with
      | false => rw [h1] at hm; cases hm
      | true =>
        rw [h1] at hm
        cases h2 : shortF rs with
        | false => rw [h2] at hm; cases hm
        | true =>
          rw [h2] at hm
          cases h3 : Nat.ble rs.length 1000 with
          | false => rw [h3] at hm; cases hm
          | true =>
            rw [h3] at hm
            cases h4 : Nat.ble h.next 100000000 with
            | false => rw [h4] at hm; cases hm
            | true =>
              rw [h4] at hm
              cases hm
              obtain ⟨b, off, cap, e, hj⟩ := cellsF_spec hrs
              obtain ⟨z1, z2⟩ := okIds_spec h1
              rw [idsF_eq] at z1 z2
              have hch : ∀ j : Nat, ∃ e : EV, ∀ hj' : j < rs.length, h.cell b (off + j) = some e ∧ cellsF h byteF e = some rs[j] := fun j => by
                by_cases hjl : j < rs.length
                · obtain ⟨e, q⟩ := hj j hjl
                  exact ⟨e, fun _ => q⟩
                · exact ⟨.nilPtr, fun h => absurd h hjl⟩
              let arr : List EV := (List.range rs.length).map fun j => Classical.choose (hch j)
              have harr : arr.length = rs.length := by simp [arr]
              have hget : ∀ j (hj : j < arr.length), arr[j] = Classical.choose (hch j) := fun j hj => by simp [arr]
              have A : MAll2 h (h.next + 2) x arr rs := {
                xs := by
                  have q := ListAt.slice (h := h) b off cap arr (fun j hjl => by
                    rw [hget j hjl]
                    exact (Classical.choose_spec (hch j) (by omega)).1)
                  rw [e, ← harr]
                  exact q
                len := harr
                big := by rw [harr]; exact Nat.le_of_ble_eq_true h3
                row := fun j q1 q2 => by
                  rw [hget j q1]
                  exact rowB_spec (Classical.choose_spec (hch j) q2).2
                rowl := shortF_spec h2
                nz := fun bs hbs => z1 _ (List.mem_map_of_mem hbs)
                same := fun bs hb cs hcs e => by
                  obtain ⟨i, hi, rfl⟩ := List.getElem_of_mem hb
                  obtain ⟨j, hj, rfl⟩ := List.getElem_of_mem hcs
                  rcases Nat.lt_trichotomy i j with hij | hij | hij
                  · exact z2 i j (by simpa using hi) (by simpa using hj) hi hj hij (by simpa using e)
                  · subst hij; rfl
                  · exact (z2 j i (by simpa using hj) (by simpa using hi) hj hi hij (by simpa using e.symm)).symm
                nx := Nat.le_of_ble_eq_true h4
                sn := fun o ho => by have := hr.low _ _ ho; omega }
              obtain ⟨N, h'', hc, ho⟩ := meets_call2 mw0 (by kernel_rfl) rfl (by kernel_rfl) hr.low A
              exact (engine_call ht N 16 [x] h (.bool false) h'' hc ρ w args' hr ha).mono fun v' w' hp => hp.same hr ho fun ρ1 u hu => by cases hu; exact .bool _
  · cases hm
end Go.Eng

/- A part of the proof of CarveSides: the runs of the document's example and of the law's body, and facts of the row. Conditions: none. -/
import Derived.Test.YtficpbnmmchpeaaGreatDoorWakesA
import Derived.Test.YtficpbnmmchpeaaGreatDoorWakesB
import Derived.Test.YtficpbnmmchpeaaGreatDoorRunA
import Derived.Test.YtficpbnmmchpeaaGreatDoorRunL
import Derived.Test.YtficpbnmmchpeaaGreatDoorRunN00
import Derived.Test.YtficpbnmmchpeaaGreatDoorRunN01
import Derived.Test.YtficpbnmmchpeaaGreatDoorRunN02
import Derived.Test.YtficpbnmmchpeaaGreatDoorRunN03
import Derived.Test.YtficpbnmmchpeaaGreatDoorRunN04
import Derived.Test.YtficpbnmmchpeaaGreatDoorRunN05
import Derived.Test.YtficpbnmmchpeaaGreatDoorRunN06
import Derived.Test.YtficpbnmmchpeaaGreatDoorRunN07
import Derived.Test.YtficpbnmmchpeaaGreatDoorRunN08
import Derived.Test.YtficpbnmmchpeaaGreatDoorRunN09
import Derived.Test.YtficpbnmmchpeaaGreatDoorRunN10
import Derived.Test.YtficpbnmmchpeaaGreatDoorRunN11
import Derived.Test.YtficpbnmmchpeaaGreatDoorRunN12
import Derived.Test.YtficpbnmmchpeaaGreatDoorRunN13
import Derived.Test.YtficpbnmmchpeaaGreatDoorRunN14
import Derived.Test.YtficpbnmmchpeaaGreatDoorRunN15
import Derived.Test.YtficpbnmmchpeaaGreatDoorRunN16
import Derived.Test.YtficpbnmmchpeaaGreatDoorRunN17
namespace Go.Eng
open Go Go.Proofs
variable [Syms]
set_option maxRecDepth 1000000

theorem wakes_call {ρ : Ren} {h : EH} {w : World} {args' : Array Value} (hr : Rel Tryz.prog ρ h w) (ha : VRels ρ [] args'.toList) : CallOk Tryz.prog 4 args' w (CPost Tryz.prog ρ h w (.bool true) h) := by
  have hB := runWB
  rw [execF_eq] at hB
  obtain ⟨f1, h1, e1, g1⟩ := okRet_spec hB
  exact closed_of_sound okJ (show (withI kitJ).fn 4 = some Tryz.f4 by kernel_rfl) rfl (by kernel_rfl)
    (sound1_parts okJ (d := 6) (by intro e; cases e) runWA (sound1_exec okJ e1 (fun e => by cases e))) g1 hr ha
theorem wakesC_ok : IntrOk Tryz.prog 4 (constI true) := by
  intro args h v h' he ρ w args' hr ha
  cases args with
  | nil => cases he; exact wakes_call hr ha
  | cons _ _ => cases he
end Go.Eng

namespace Go.Eng
open Go Go.RowKit Go.Proofs
set_option maxRecDepth 1000000

theorem tail_tail : ∀ (n m : Nat) (c : Code), tail m (tail n c) = tail (n + m) c
  | 0, m, c => by rw [Nat.zero_add]; rfl
  | n + 1, m, c => by
    have hn : ∀ c : Code, (∀ a b, c ≠ .seq a b) → ∀ m, tail m c = c := fun c hc m => by
      cases m with
      | zero => rfl
      | succ m => cases c <;> first | rfl | exact absurd rfl (hc _ _)
    by_cases hc : ∃ a b, c = .seq a b
    · obtain ⟨a, b, rfl⟩ := hc
      rw [show n + 1 + m = (n + m) + 1 by omega]
      exact tail_tail n m b
    · have hc' : ∀ a b, c ≠ .seq a b := fun a b e => hc ⟨a, b, e⟩
      rw [hn c hc', hn c hc', hn c hc']

theorem allL_mem {p : Int → Bool} : ∀ {l : List Int} {x : Int}, allL p l = true → x ∈ l → p x = true := by
  intro l
  induction l with
  | nil => intro x _ h; cases h
  | cons y l ih =>
    intro x h hx
    have h' : (Bool.rec false (allL p l) (p y) : Bool) = true := h
    cases hp : p y with
    | false => rw [hp] at h'; cases h'
    | true =>
      rw [hp] at h'
      rcases List.mem_cons.1 hx with rfl | hx
      · exact hp
      · exact ih h' hx
theorem allN_mem : ∀ {l : List Nat} {x : Nat}, allN l = true → x ∈ l → goN x = true := by
  intro l
  induction l with
  | nil => intro x _ h; cases h
  | cons y l ih =>
    intro x h hx
    have h' : (Bool.rec false (allN l) (goN y) : Bool) = true := h
    cases hp : goN y with
    | false => rw [hp] at h'; cases h'
    | true =>
      rw [hp] at h'
      rcases List.mem_cons.1 hx with rfl | hx
      · exact hp
      · exact ih h' hx
theorem memL_iff {c : Int} : ∀ {l : List Int}, memL c l = true ↔ c ∈ l := by
  intro l
  induction l with
  | nil => exact ⟨(fun h => by cases h), (fun h => by cases h)⟩
  | cons y l ih =>
    show (Bool.rec (memL c l) true (decide (y = c)) : Bool) = true ↔ _
    by_cases h : y = c
    · subst h; simp
    · rw [decide_eq_false h]
      show memL c l = true ↔ _
      rw [ih, List.mem_cons]
      exact ⟨.inr, fun e => e.elim (fun e => absurd e.symm h) id⟩
theorem qNot_ok {l : List Int} {i : Int} (hi : i ∉ l) : ∀ c b, qNot l c = some b → decide (i = c) = b := by
  intro c b h
  unfold qNot at h
  cases hm : memL c l with
  | false => rw [hm] at h; cases h
  | true =>
    rw [hm] at h
    cases h
    exact decide_eq_false fun e => hi (e ▸ memL_iff.1 hm)
theorem goN_all {n : Nat} (h1 : 1 ≤ n) (h2 : n ≤ 200) : goN n = true := by
  by_cases g0 : n ≤ 18
  · exact allN_mem runN00 (by simp only [List.mem_cons, List.not_mem_nil, or_false]; omega)
  by_cases g1 : n ≤ 35
  · exact allN_mem runN01 (by simp only [List.mem_cons, List.not_mem_nil, or_false]; omega)
  by_cases g2 : n ≤ 50
  · exact allN_mem runN02 (by simp only [List.mem_cons, List.not_mem_nil, or_false]; omega)
  by_cases g3 : n ≤ 64
  · exact allN_mem runN03 (by simp only [List.mem_cons, List.not_mem_nil, or_false]; omega)
  by_cases g4 : n ≤ 77
  · exact allN_mem runN04 (by simp only [List.mem_cons, List.not_mem_nil, or_false]; omega)
  by_cases g5 : n ≤ 89
  · exact allN_mem runN05 (by simp only [List.mem_cons, List.not_mem_nil, or_false]; omega)
  by_cases g6 : n ≤ 101
  · exact allN_mem runN06 (by simp only [List.mem_cons, List.not_mem_nil, or_false]; omega)
  by_cases g7 : n ≤ 112
  · exact allN_mem runN07 (by simp only [List.mem_cons, List.not_mem_nil, or_false]; omega)
  by_cases g8 : n ≤ 123
  · exact allN_mem runN08 (by simp only [List.mem_cons, List.not_mem_nil, or_false]; omega)
  by_cases g9 : n ≤ 133
  · exact allN_mem runN09 (by simp only [List.mem_cons, List.not_mem_nil, or_false]; omega)
  by_cases g10 : n ≤ 143
  · exact allN_mem runN10 (by simp only [List.mem_cons, List.not_mem_nil, or_false]; omega)
  by_cases g11 : n ≤ 153
  · exact allN_mem runN11 (by simp only [List.mem_cons, List.not_mem_nil, or_false]; omega)
  by_cases g12 : n ≤ 162
  · exact allN_mem runN12 (by simp only [List.mem_cons, List.not_mem_nil, or_false]; omega)
  by_cases g13 : n ≤ 171
  · exact allN_mem runN13 (by simp only [List.mem_cons, List.not_mem_nil, or_false]; omega)
  by_cases g14 : n ≤ 180
  · exact allN_mem runN14 (by simp only [List.mem_cons, List.not_mem_nil, or_false]; omega)
  by_cases g15 : n ≤ 188
  · exact allN_mem runN15 (by simp only [List.mem_cons, List.not_mem_nil, or_false]; omega)
  by_cases g16 : n ≤ 196
  · exact allN_mem runN16 (by simp only [List.mem_cons, List.not_mem_nil, or_false]; omega)
  by_cases g17 : n ≤ 200
  · exact allN_mem runN17 (by simp only [List.mem_cons, List.not_mem_nil, or_false]; omega)
  omega

section
variable [Syms]

theorem sound1_heads0 {P : Program} {tb : Tab} (ht : FnOk P tb) {N : Nat} {rd : Bool} {c : Code} {x : XR} : ∀ (l : List Code) (f : Fr) (h : EH) (f1 : Fr) (h1 : EH), runL (exec tb N) rd l f h = .normal f1 h1 → Sound1 P rd c f1 h1 x → Sound1 P rd (seqs l c) f h x := by
  intro l
  induction l with
  | nil => intro f h f1 h1 e q; cases e; exact q
  | cons a l ih =>
    intro f h f1 h1 e q
    obtain ⟨f', h', e1, e2⟩ := runL_cons e
    exact sound1_seq0 (sound1_exec ht e1 (fun e => by cases e)) (ih f' h' f1 h1 e2 q)

theorem headI_ok : IntrOk Tryz.prog 29 headI := by
  intro args h v h' hx ρ w args' hr ha
  unfold headI at hx
  cases hm : memoI argH litHi 9500 valH litHo 24690 args h with
  | none =>
    rw [hm] at hx
    exact ownI_ok 29 _ _ _ _ hx ρ w args' hr ha
  | some r =>
    rw [hm] at hx
    cases hx
    have h1 := runH
    rw [execF_eq] at h1
    obtain ⟨f, h1, vs, e, hvs, hv, hout⟩ := okEnd_spec h1
    exact memo_ok okJ (show (withI kitJ).fn 29 = some Tryz.f29 by kernel_rfl) rfl (of_decide_eq_true (by kernel_rfl)) (sound1_exec okJ e (fun e => by cases e)) hvs hv hout args h v h' hm ρ w args' hr ha

variable {S : ByteArray} {i : Int}

theorem kitL_ok (hS : SymsAt S i) : ∀ g r, kitL g = some r → IntrOk Tryz.prog g r := by
  intro g r h
  rcases okOpt h with ⟨b, e⟩ | ⟨_, e⟩
  · cases e
    obtain rfl := Nat.eq_of_beq_eq_true b
    exact putWordI_ok hS
  rcases okOpt e with ⟨b, e⟩ | ⟨_, e⟩
  · cases e
    obtain rfl := Nat.eq_of_beq_eq_true b
    exact recordI_ok hS
  rcases okOpt e with ⟨b, e⟩ | ⟨_, e⟩
  · cases e
    obtain rfl := Nat.eq_of_beq_eq_true b
    exact headI_ok
  · exact okJ.intr g r e
theorem kitP_ok (hS : SymsAt S i) {pe : Int} (hp : ((pathD S).1 : Int) = pe) : ∀ g r, kitP pe g = some r → IntrOk Tryz.prog g r := by
  intro g r h
  rcases okOpt h with ⟨b, e⟩ | ⟨_, e⟩
  · cases e
    obtain rfl := Nat.eq_of_beq_eq_true b
    have := pathI_ok hS
    rwa [hp] at this
  · exact kitL_ok hS g r e
theorem kitN_ok (hS : SymsAt S i) (hn : S.size ≤ 200) (hp : ((pathD S).1 : Int) = 0) : ∀ g r, kitN S.size g = some r → IntrOk Tryz.prog g r := by
  intro g r h
  rcases okOpt h with ⟨b, e⟩ | ⟨_, e⟩
  · cases e
    obtain rfl := Nat.eq_of_beq_eq_true b
    exact putTextI_ok hS (by omega)
  · exact kitP_ok hS hp g r e

structure NameNot (S : ByteArray) : Prop where
  empty : ofBytes S ≠ []
  host : ofBytes S ≠ hostL
  other : ofBytes S ≠ otherL

theorem okQ (hS : SymsAt S i) {kit : FuncId → Option (List EV → EH → Option (EV × EH))} (hk : ∀ g r, kit g = some r → IntrOk Tryz.prog g r) {s : Bool} (hs : s = true → NameNot S) {q : Int → Option Bool} (hq : ∀ c b, q c = some b → decide ((i : Int) = c) = b) :
    FnOk Tryz.prog (tbQ kit s q) where
  toTabOk := {
    und := tab0.und
    inf := tab0.inf
    fn := tab0.fn
    eqst := tab0.eqst
    eqs := by
      intro n y b he
      have he' : cond s (eqsK n y) none = some b := he
      cases s with
      | false => cases he'
      | true =>
        have hN := hs rfl
        have he2 : eqsK n y = some b := he'
        unfold eqsK at he2
        split at he2
        · cases he2; exact ⟨S, hS.name, .inl ⟨_, rfl, by rw [strEq_eq]; exact decide_eq_false hN.empty⟩⟩
        · cases he2; exact ⟨S, hS.name, .inl ⟨_, rfl, by rw [strEq_eq]; exact decide_eq_false hN.host⟩⟩
        · cases he2; exact ⟨S, hS.name, .inl ⟨_, rfl, by rw [strEq_eq]; exact decide_eq_false hN.other⟩⟩
        · cases he2; exact ⟨S, hS.name, .inr ⟨0, S, rfl, hS.name, by rw [strEq_eq]; exact decide_eq_true rfl⟩⟩
        · cases he2
    kinds := by
      intro n k he
      have he' : cond (Nat.beq n 1) (some IntKind.u64) none = some k := he
      rcases okOpt he' with ⟨b, e⟩ | ⟨_, e⟩
      · cases e
        obtain rfl := Nat.eq_of_beq_eq_true b
        exact ⟨_, hS.id⟩
      · cases e
    eqi := by
      intro n c b he k a hv
      have he' : cond (Nat.beq n 1) (q c) none = some b := he
      rcases okOpt he' with ⟨b1, e⟩ | ⟨_, e⟩
      · obtain rfl := Nat.eq_of_beq_eq_true b1
        rw [hS.id] at hv
        cases hv
        exact hq c b e
      · cases e }
  enter := ok0.enter
  ext := ok0.ext
  intr := hk
  mixed := mixed0

theorem okAk : FnOk Tryz.prog (withI kitA) := okI fun g r h => by
  rcases okOpt h with ⟨b, e⟩ | ⟨_, e⟩
  · cases e
    obtain rfl := Nat.eq_of_beq_eq_true b
    exact wakesC_ok
  · exact okJ.intr g r e

omit [Syms] in
theorem qNo_ok : ∀ c b, qNo c = some b → decide ((i : Int) = c) = b := fun c b h => by cases h
omit [Syms] in
theorem qIs_ok {j : Int} (hj : (i : Int) = j) : ∀ c b, qIs j c = some b → decide ((i : Int) = c) = b := fun c b h => by
  cases h
  rw [hj]

/-- The state behind the host's ref, told otherwise. -/
theorem turnF (hS : SymsAt S i) {a b : EV} (ha : a = .sym 0 ∨ a = .str (ofBytes S)) (hb : b = .sym 1 ∨ b = .int .u64 (i : Int)) {c : Code} {h : EH} {x : XR} (hs : Sound1 Tryz.prog false c ⟨127, litF (frmS a b)⟩ h x) : Sound1 Tryz.prog false c ⟨127, litF frmA⟩ h x := by
  intro ro n ρ ac w hfr hr hl
  refine hs ro n ρ ac w ⟨hfr.1, fun t e hg => ?_⟩ hr hl
  have a0 : (⟨127, litF frmA⟩ : Fr).get 0 = some (.sym 0) := by kernel_rfl
  have a1 : (⟨127, litF frmA⟩ : Fr).get 1 = some (.sym 1) := by kernel_rfl
  have a5 : (⟨127, litF frmA⟩ : Fr).get 5 = some (.ptr 1305 0) := by kernel_rfl
  have a7 : (⟨127, litF frmA⟩ : Fr).get 7 = some (.slice 6929 0 1 none 1) := by kernel_rfl
  have hm := litF_get (l := frmS a b) (show (litF _).get t = some e from hg)
  simp only [frmS, List.mem_cons, Prod.mk.injEq, List.not_mem_nil, or_false] at hm
  rcases hm with ⟨rfl, rfl⟩ | ⟨rfl, rfl⟩ | ⟨rfl, rfl⟩ | ⟨rfl, rfl⟩
  · rcases ha with rfl | rfl
    · exact hfr.2 0 _ a0
    · obtain ⟨v, q1, q2⟩ := hfr.2 0 _ a0
      cases q2 with | sym _ _ hv _ => ?_
      rw [hS.name] at hv
      subst hv
      exact ⟨_, q1, .str _ _ rfl⟩
  · rcases hb with rfl | rfl
    · exact hfr.2 1 _ a1
    · obtain ⟨v, q1, q2⟩ := hfr.2 1 _ a1
      cases q2 with | sym _ _ hv _ => ?_
      rw [hS.id] at hv
      subst hv
      exact ⟨_, q1, .int _ _⟩
  · exact hfr.2 5 _ a5
  · exact hfr.2 7 _ a7

/-- What is asked of the law's rest. -/
def Ends (c : Code) (f : Fr) (h : EH) : Prop := ∃ f1 h1, Sound1 Tryz.prog false c f h (.ret f1 h1) ∧ f1.get 4 = some (.bool true)

theorem ends_ret {tb : Tab} (ht : FnOk Tryz.prog tb) {c : Code} {f : Fr} {h : EH} (hr : okRet 4 true ((execF tb 100000 : Ex) false c f h) = true) : Ends c f h := by
  rw [execF_eq] at hr
  obtain ⟨f1, h1, e, g⟩ := okRet_spec hr
  exact ⟨f1, h1, sound1_exec ht e (fun e => by cases e), g⟩
theorem goL_ends (hS : SymsAt S i) {kit : FuncId → Option (List EV → EH → Option (EV × EH))} (hk : ∀ g r, kit g = some r → IntrOk Tryz.prog g r) {s : Bool} (hs : s = true → NameNot S) {q : Int → Option Bool} (hq : ∀ c b, q c = some b → decide ((i : Int) = c) = b) {a b : EV} (ha : a = .sym 0 ∨ a = .str (ofBytes S)) (hb : b = .sym 1 ∨ b = .int .u64 (i : Int))
    (hg : goL kit s q a b = true) : Ends (tail 6 lawB) ⟨127, litF frmA⟩ ⟨litH litA, 8163⟩ := by
  obtain ⟨f1, h1, q1, q2⟩ := ends_ret (okQ hS hk hs hq) hg
  exact ⟨f1, h1, turnF hS ha hb q1, q2⟩
end
end Go.Eng

namespace Go.Eng
open Go Go.RowKit Go.Proofs
set_option maxRecDepth 1000000

theorem spot_codes (s : ByteArray) : (spotD s).1 = 0 ∨ (spotD s).1 = 3 ∨ (spotD s).1 = 140 := by
  unfold spotD
  split
  · exact .inr (.inr rfl)
  · split
    · exact .inr (.inl rfl)
    · split
      · exact .inr (.inr rfl)
      · exact .inl rfl
theorem from_codes : ∀ (l : List ByteArray) (k a : Nat), (pathFrom l k a).1 = 0 ∨ (pathFrom l k a).1 = 3 ∨ (pathFrom l k a).1 = 140
  | [], _, _ => .inl rfl
  | n :: l, k, a => by
    unfold pathFrom
    split
    · exact .inr (.inl rfl)
    · split
      · exact spot_codes n
      · exact from_codes l _ _
theorem path_codes (s : ByteArray) : ((pathD s).1 = 0 ∧ s.size ≤ 200) ∨ (pathD s).1 = 3 ∨ (pathD s).1 = 140 := by
  unfold pathD
  split
  · exact .inr (.inl rfl)
  · rcases from_codes (namesOf s) 0 0 with h | h
    · exact .inl ⟨h, by omega⟩
    · exact .inr h

theorem goF_spec {kit : FuncId → Option (List EV → EH → Option (EV × EH))} {x : XR} (h : goF kit x = true) : ∃ f hh, x = .normal f hh ∧
    allL (fun i => okRet 4 true ((execF (tbQ kit true (qIs i)) 100000 : Ex) false (tail 8 lawB) f hh)) (0 :: idsS) = true ∧
    okForget litC 60000 frmC 127 (runL (execF (tbQ kit true (qNot (0 :: idsS))) 100000 : Ex) false (heads 1 (tail 8 lawB)) f hh) = true := by
  cases x with
  | normal f hh =>
    have h' : (Bool.rec false (allL (fun i => okRet 4 true ((execF (tbQ kit true (qIs i)) 100000 : Ex) false (tail 8 lawB) f hh)) (0 :: idsS)) (okForget litC 60000 frmC 127 (runL (execF (tbQ kit true (qNot (0 :: idsS))) 100000 : Ex) false (heads 1 (tail 8 lawB)) f hh)) : Bool) = true := h
    cases hf : okForget litC 60000 frmC 127 (runL (execF (tbQ kit true (qNot (0 :: idsS))) 100000 : Ex) false (heads 1 (tail 8 lawB)) f hh) with
    | false => rw [hf] at h'; cases h'
    | true => rw [hf] at h'; exact ⟨f, hh, rfl, h', hf⟩
  | _ => cases h
theorem okForget_spec {l : List (Nat × EO)} {k m : Nat} {fl : List (Nat × EV)} {x : XR} (h : okForget l k fl m x = true) : ∃ f2 h2, x = .normal f2 h2 ∧ EH.sub ⟨litH l, k⟩ (forget forgs h2) ∧ Fr.sub (⟨m, litF fl⟩ : Fr) f2 := by
  cases x with
  | normal f2 h2 =>
    have h' : okState l k fl m (.normal f2 (forget forgs h2)) = true := h
    obtain ⟨f1, h1, e, s1, s2⟩ := okState_sub h'
    cases e
    exact ⟨_, _, rfl, s1, s2⟩
  | _ => cases h

section
variable [Syms]
variable {S : ByteArray} {i : Int}

theorem ends_forget {tb : Tab} (ht : FnOk Tryz.prog tb) {N : Nat} {c : Code} {f f2 fL : Fr} {h h2 hL : EH} (e2 : runL (exec tb N) false (heads 1 c) f h = .normal f2 h2) (s1 : EH.sub hL (forget forgs h2)) (s2 : Fr.sub fL f2) (hE : Ends (tail 1 c) fL hL) (hc : heads 1 c ≠ []) : Ends c f h := by
  cases c with
  | seq a b =>
    obtain ⟨f', h', e1, e3⟩ := runL_cons e2
    cases e3
    obtain ⟨f3, h3, q1, q2⟩ := hE
    exact ⟨f3, h3, sound1_seq (sound1_forget forgs (sound1_exec ht e1 (fun e => by cases e))) s1 s2 q1, q2⟩
  | _ => exact absurd rfl hc
theorem ends_heads {tb : Tab} (ht : FnOk Tryz.prog tb) {N d : Nat} {c : Code} {f f2 : Fr} {h h2 : EH} (e2 : runL (exec tb N) false (heads d c) f h = .normal f2 h2) (hE : Ends (tail d c) f2 h2) : Ends c f h := by
  obtain ⟨f3, h3, q1, q2⟩ := hE
  refine ⟨f3, h3, ?_, q2⟩
  have := sound1_heads0 ht (heads d c) f h f2 h2 e2 q1
  rwa [seqs_heads] at this

theorem law_ends (hS : SymsAt S i) : Ends (tail 6 lawB) ⟨127, litF frmA⟩ ⟨litH litA, 8163⟩ := by
  by_cases e0 : ofBytes S = []
  · exact goL_ends hS (kitL_ok hS) (fun e => by cases e) qNo_ok (.inr (by rw [e0])) (.inl rfl) runEmpty
  by_cases e1 : ofBytes S = hostL
  · exact goL_ends hS (kitL_ok hS) (fun e => by cases e) qNo_ok (.inr (by rw [e1])) (.inl rfl) runHost
  by_cases e2 : ofBytes S = otherL
  · by_cases hi : (i : Int) ∈ 0 :: 1 :: idsS
    · exact goL_ends hS (kitL_ok hS) (fun e => by cases e) qNo_ok (.inr (by rw [e2])) (.inr rfl) (allL_mem runOther1 hi)
    · have h0 := runOther
      unfold goO at h0
      generalize hx : runL (execF (tbQ kitL false (qNot (0 :: 1 :: idsS))) 100000 : Ex) false (heads 3 (tail 6 lawB)) ⟨127, litF (frmS (.str otherL) (.sym 1))⟩ ⟨litH litA, 8163⟩ = x at h0
      cases x with
      | normal f hh =>
        rw [execF_eq] at hx
        have ht := okQ hS (kitL_ok hS) (s := false) (fun e => by cases e) (qNot_ok hi)
        have hE : Ends (tail 3 (tail 6 lawB)) f hh := by
          rw [tail_tail]
          exact ends_ret (okQ hS okJ.intr (s := false) (fun e => by cases e) (qNot_ok hi)) h0
        obtain ⟨f3, h3, q1, q2⟩ := ends_heads ht hx hE
        exact ⟨f3, h3, turnF hS (.inr (by rw [e2])) (.inl rfl) q1, q2⟩
      | _ => cases h0
  have hN : NameNot S := ⟨e0, e1, e2⟩
  rcases path_codes S with ⟨h, hsz⟩ | h | h
  · have hp : ((pathD S).1 : Int) = 0 := by rw [h]; rfl
    have hpos : 1 ≤ S.size := by
      rcases Nat.eq_zero_or_pos S.size with h0 | h0
      · exfalso
        apply e0
        apply List.eq_nil_of_length_eq_zero
        rw [ofBytes_length]
        exact h0
      · exact h0
    have hg := goN_all hpos hsz
    unfold goN at hg
    obtain ⟨f, hh, ex, hall, hfg⟩ := goF_spec hg
    rw [execF_eq] at ex
    refine ends_heads (okQ hS (kitN_ok hS hsz hp) (fun _ => hN) qNo_ok) ex ?_
    rw [tail_tail]
    by_cases hi : (i : Int) ∈ 0 :: idsS
    · exact ends_ret (okQ hS (kitN_ok hS hsz hp) (fun _ => hN) (qIs_ok rfl)) (allL_mem hall hi)
    · obtain ⟨f2, h2, e2', s1, s2⟩ := okForget_spec hfg
      rw [execF_eq] at e2'
      refine ends_forget (okQ hS (kitN_ok hS hsz hp) (fun _ => hN) (qNot_ok hi)) e2' s1 s2 ?_ (by intro e; cases e)
      rw [tail_tail]
      exact ends_ret (okQ hS okJ.intr (fun _ => hN) (qNot_ok hi)) runC
  · exact goL_ends hS (kitP_ok hS (pe := 3) (by rw [h]; rfl)) (fun _ => hN) qNo_ok (.inl rfl) (.inl rfl) runPath3
  · exact goL_ends hS (kitP_ok hS (pe := 140) (by rw [h]; rfl)) (fun _ => hN) qNo_ok (.inl rfl) (.inl rfl) runPath140

theorem law_ret (hS : SymsAt S i) : ∃ f h, Sound1 Tryz.prog false lawB f0A ⟨.leaf, 1024⟩ (.ret f h) ∧ f.get 4 = some (.bool true) := by
  obtain ⟨f1, h1, q1, q2⟩ := law_ends hS
  exact ⟨f1, h1, sound1_parts okAk (d := 6) (c := lawB) (by intro e; cases e) runA q1, q2⟩
end

theorem word_range (x : Int) (k : Nat) : 0 ≤ (wordV x).getD k 0 ∧ (wordV x).getD k 0 < 256 := by
  rw [List.getD_eq_getElem?_getD]
  cases h : (wordV x)[k]? with
  | none => exact ⟨by decide, by decide⟩
  | some y =>
    have hm := List.mem_of_getElem? h
    simp only [wordV, List.mem_cons, List.not_mem_nil, or_false] at hm
    show 0 ≤ y ∧ y < 256
    rcases hm with rfl | rfl | rfl | rfl | rfl | rfl | rfl | rfl <;> omega

/-- The law is true, whatever its arguments, and turns nothing that was. -/
theorem law_calls (S : ByteArray) (i : Int) (W : World) :
    Calls Tryz.prog 3 #[.string S, .int .u64 (i : Int)] W fun e W' => e = .returned (.bool true) ∧ RowKit.Below W.heap.size W W' := by
  letI : Syms := ⟨fun n => if n = 0 then .string S else if n = 1 then .int .u64 (i : Int) else
    if 2000 ≤ n then .int .u8 ((wordV (i : Int)).getD (n - 2000) 0) else .int .u8 (((S.data.toList.getD (n - 1000) 0).toNat : Nat) : Int), fun _ => none⟩
  have hS : SymsAt S i := {
    name := rfl
    id := rfl
    text := fun k b hk hb => by
      show (if 1000 + k = 0 then Value.string S else if 1000 + k = 1 then Value.int .u64 (i : Int) else if 2000 ≤ 1000 + k then Value.int .u8 ((wordV (i : Int)).getD (1000 + k - 2000) 0) else Value.int .u8 (((S.data.toList.getD (1000 + k - 1000) 0).toNat : Nat) : Int)) = _
      rw [if_neg (by omega), if_neg (by omega), if_neg (by omega), show 1000 + k - 1000 = k by omega, List.getD_eq_getElem?_getD, hb]
      rfl
    word := fun k x hx => by
      show (if 2000 + k = 0 then Value.string S else if 2000 + k = 1 then Value.int .u64 (i : Int) else if 2000 ≤ 2000 + k then Value.int .u8 ((wordV (i : Int)).getD (2000 + k - 2000) 0) else Value.int .u8 (((S.data.toList.getD (2000 + k - 1000) 0).toNat : Nat) : Int)) = _
      rw [if_neg (by omega), if_neg (by omega), if_pos (by omega), show 2000 + k - 2000 = k by omega, List.getD_eq_getElem?_getD, hx]
      rfl
    bytes := fun k h1 h2 => by
      show ∃ x : UInt8, (if k = 0 then Value.string S else if k = 1 then Value.int .u64 (i : Int) else if 2000 ≤ k then Value.int .u8 ((wordV (i : Int)).getD (k - 2000) 0) else Value.int .u8 (((S.data.toList.getD (k - 1000) 0).toNat : Nat) : Int)) = _
      rw [if_neg (by omega), if_neg (by omega)]
      by_cases h : 2000 ≤ k
      · rw [if_pos h]
        have hr := word_range (i : Int) (k - 2000)
        generalize (wordV (i : Int)).getD (k - 2000) 0 = x at hr
        have h3 : x.toNat < UInt8.size := by simp only [UInt8.size]; omega
        exact ⟨UInt8.ofNat x.toNat, by rw [UInt8.toNat_ofNat_of_lt' h3, Int.toNat_of_nonneg hr.1]⟩
      · rw [if_neg h]
        exact ⟨_, rfl⟩ }
  obtain ⟨f, hh, hs, g'⟩ := law_ret hS
  have hf : FRel Ren.none f0A (#[.string S, .int .u64 (i : Int)] ++ Array.replicate (Tryz.f3.ntmps - 2) undef) :=
    initFr_rel (n := 127) (args' := #[.string S, .int .u64 (i : Int)]) (.cons _ _ _ _ (.sym 0 _ rfl rfl) (.cons _ _ _ _ (.sym 1 _ rfl rfl) .nil)) (by simp)
  have hc := calls_sound1 (ρ := Ren.none) (w := W) okJ (g := 3) (fn := Tryz.f3) (c := lawB) (show (withI kitJ).fn 3 = some Tryz.f3 by kernel_rfl) rfl (vs := [.bool true]) hs (by rw [show Tryz.f3.results.toList = [.tmp 4] by kernel_rfl]; exact res_tmp g') (Rel.nothing 1024 W (fun _ _ h => by cases h)) hf 0
  refine (callsIn_wide.1 hc).mono ?_
  rintro e W' ⟨v', rfl, ρ', h1, h2, h3⟩
  cases h1
  exact ⟨rfl, h3.os, h3.tape, h3.output, h3.size, fun k hk => Extd.all_kept h3 k hk⟩
end Go.Eng

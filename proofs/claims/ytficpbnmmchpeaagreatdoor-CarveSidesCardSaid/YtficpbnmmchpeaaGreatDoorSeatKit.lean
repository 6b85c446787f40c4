/- A part of the proof of CarveSides: the program's tables as the interpreter reads them, and the library's functions at this program. Conditions: none. -/
import Derived.Test.YtficpbnmmchpeaaGreatDoorSeatLays
import Derived.Test.YtficpbnmmchpeaaGreatDoorSeatOk
import Derived.Test.YtficpbnmmchpeaaGreatDoorEngN
import Derived.Shelf.SlIter.Nil
import Derived.Shelf.SortM.Plain
import Derived.Shelf.SortM.SortNone
namespace Go.Eng
open Go Go.RowKit Go.Proofs Go.Maps
variable [Syms]

omit [Syms] in
theorem enterG (args : Array Value) (w : World) : (callFunc (Go.Proofs.Tryz.growB_ren.f 4) args).run Go.Proofs.Tryz.prog w = .ok (.enter (Go.Proofs.Tryz.growB_ren.f 4) args) w := enter0 (show tb0.fn 195 = some Go.Proofs.Tryz.f195 by kernel_rfl) rfl args w
theorem growOk : IntrOk Go.Proofs.Tryz.prog 195 (growI 5) := growI_ok (P := Go.Proofs.Tryz.prog) Go.Proofs.Tryz.growB enterG (i0 := Go.Proofs.Tryz.t5) (z := .int .u8 0) (tab0.inf 5 _ (by kernel_rfl)) (by kernel_rfl) (by kernel_rfl) (of_decide_eq_true (by kernel_rfl)) rfl

omit [Syms] in
theorem sortsIn (m : Nat) : AnyZ.SortsIn Go.Proofs.Tryz.prog Go.Proofs.Tryz.sortedS_ren Fence.wide m :=
  ⟨fun blk off cap ss W hH hblk hsz => callsIn_wide.2 (AnyM.slices_Sort_string Go.Proofs.Tryz.sortS blk off cap ss W hH hblk hsz),
   fun p cap W => callsIn_wide.2 (AnyM.slices_Sort_string_none Go.Proofs.Tryz.sortS p cap W)⟩
omit [Syms] in
theorem sortedOk : SortedOk Go.Proofs.Tryz.prog 179 9 where
  enter args w := enter0 (show tb0.fn 179 = some Go.Proofs.Tryz.f179 by kernel_rfl) rfl args w
  run g lb eg S N hN hNb w hseq := AnyZ.sorted_in Go.Proofs.Tryz.sortedS Fence.wide 5 trivial trivial trivial trivial rfl (by omega) (sortsIn _) (fun args w => enter0 (show tb0.fn 219 = some Go.Proofs.Tryz.f219 by kernel_rfl) rfl args w) g lb trivial eg S N hN hNb w hseq
omit [Syms] in
theorem iter220 : IterOk Go.Proofs.Tryz.prog 220 9 where
  enter args w := enter0 (show tb0.fn 220 = some Go.Proofs.Tryz.f220 by kernel_rfl) rfl args w
  gives Bm b nn D0 R w h1 h2 h3 := AnyZ.keys_gives (ρ := Go.Proofs.Tryz.keys180_ren) { Go.Proofs.Tryz.keys180 with } Fence.wide 2 trivial rfl (by omega) Bm b nn D0 w h1 h2 h3
omit [Syms] in
theorem iter268 : IterOk Go.Proofs.Tryz.prog 268 9 where
  enter args w := enter0 (show tb0.fn 268 = some Go.Proofs.Tryz.f268 by kernel_rfl) rfl args w
  gives Bm b nn D0 R w h1 h2 h3 := AnyZ.keys_gives (ρ := Go.Proofs.Tryz.keys234_ren) { Go.Proofs.Tryz.keys234 with } Fence.wide 2 trivial rfl (by omega) Bm b nn D0 w h1 h2 h3
noncomputable def iterB (g : FuncId) : Bool := Nat.beq g 220 || Nat.beq g 268
omit [Syms] in
theorem iterB_ok : ∀ g, iterB g = true → IterOk Go.Proofs.Tryz.prog g 9 := by
  intro g hg
  simp only [iterB, Bool.or_eq_true] at hg
  rcases hg with h0 | h1
  · obtain rfl := Nat.eq_of_beq_eq_true h0
    exact iter220
  · obtain rfl := Nat.eq_of_beq_eq_true h1
    exact iter268
theorem sortedOk' : IntrOk Go.Proofs.Tryz.prog 179 (sortedI 9 iterB) := sortedI_ok (P := Go.Proofs.Tryz.prog) (e0 := 9) sortedOk (tab0.und 9 _ (by kernel_rfl)) iterB_ok

/-- The library's functions by their contracts. -/
noncomputable def kitI (f : FuncId) : Option (List EV → EH → Option (EV × EH)) :=
  cond (Nat.beq f 195) (some (growI 5)) (cond (Nat.beq f 179) (some (sortedI 9 iterB)) (none))
theorem kit_ok : ∀ g r, kitI g = some r → ∀ (args : List EV) (h : EH) (v : EV) (h' : EH), r args h = some (v, h') → ∀ (ρ : Ren) (w : World) (args' : Array Value), Rel Go.Proofs.Tryz.prog ρ h w → VRels ρ args args'.toList → CallOk Go.Proofs.Tryz.prog g args' w (CPost Go.Proofs.Tryz.prog ρ h w v h') := by
  intro g r h
  have h' : cond (Nat.beq g 195) (some (growI 5)) (cond (Nat.beq g 179) (some (sortedI 9 iterB)) (none)) = some r := h
  rcases okOpt h' with ⟨b, e⟩ | ⟨_, h'⟩
  · obtain rfl := Nat.eq_of_beq_eq_true b
    cases e
    exact growOk
  rcases okOpt h' with ⟨b, e⟩ | ⟨_, h'⟩
  · obtain rfl := Nat.eq_of_beq_eq_true b
    cases e
    exact sortedOk'
  cases h'

theorem okK : FnOk Go.Proofs.Tryz.prog (withI kitI) := okI kit_ok
end Go.Eng

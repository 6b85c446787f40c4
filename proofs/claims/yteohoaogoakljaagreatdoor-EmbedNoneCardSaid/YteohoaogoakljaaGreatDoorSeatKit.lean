/- A part of the proof of EmbedNoneCardSaid: the program's tables as the interpreter reads them, and the library's functions at this program. Conditions: none. -/
import Derived.Test.YteohoaogoakljaaGreatDoorSeatLays
import Derived.Test.YteohoaogoakljaaGreatDoorSeatOk
import Derived.Test.YteohoaogoakljaaGreatDoorEngN
import Derived.Shelf.SlIter.Nil
import Derived.Shelf.SortM.Plain
import Derived.Shelf.SortM.SortNone
namespace Go.Eng
open Go Go.RowKit Go.Proofs Go.Maps

theorem sortsIn (m : Nat) : AnyZ.SortsIn Go.Proofs.Tryz.prog Go.Proofs.Tryz.sortedS_ren Fence.wide m :=
  ⟨fun blk off cap ss W hH hblk hsz => callsIn_wide.2 (AnyM.slices_Sort_string Go.Proofs.Tryz.sortS blk off cap ss W hH hblk hsz),
   fun p cap W => callsIn_wide.2 (AnyM.slices_Sort_string_none Go.Proofs.Tryz.sortS p cap W)⟩
theorem sortedOk : SortedOk Go.Proofs.Tryz.prog 250 9 where
  enter args w := enter0 (show tb0.fn 250 = some Go.Proofs.Tryz.f250 by kernel_rfl) rfl args w
  run g lb eg S N hN hNb w hseq := AnyZ.sorted_in Go.Proofs.Tryz.sortedS Fence.wide 5 trivial trivial trivial trivial rfl (by omega) (sortsIn _) (fun args w => enter0 (show tb0.fn 281 = some Go.Proofs.Tryz.f281 by kernel_rfl) rfl args w) g lb trivial eg S N hN hNb w hseq
theorem iter282 : IterOk Go.Proofs.Tryz.prog 282 9 where
  enter args w := enter0 (show tb0.fn 282 = some Go.Proofs.Tryz.f282 by kernel_rfl) rfl args w
  gives Bm b nn D0 R w h1 h2 h3 := AnyZ.keys_gives (ρ := Go.Proofs.Tryz.keys251_ren) { Go.Proofs.Tryz.keys251 with } Fence.wide 2 trivial rfl (by omega) Bm b nn D0 w h1 h2 h3
noncomputable def iterB (g : FuncId) : Bool := Nat.beq g 282
theorem iterB_ok : ∀ g, iterB g = true → IterOk Go.Proofs.Tryz.prog g 9 := by
  intro g hg
  simp only [iterB, Bool.or_eq_true] at hg
  obtain rfl := Nat.eq_of_beq_eq_true hg
  exact iter282
theorem sortedOk' : IntrOk Go.Proofs.Tryz.prog 250 (sortedI 9 iterB) := sortedI_ok (P := Go.Proofs.Tryz.prog) (e0 := 9) sortedOk (tab0.und 9 _ (by kernel_rfl)) iterB_ok

/-- The library's functions by their contracts. -/
noncomputable def kitI (f : FuncId) : Option (List EV → EH → Option (EV × EH)) :=
  cond (Nat.beq f 250) (some (sortedI 9 iterB)) (none)
theorem kit_ok : ∀ g r, kitI g = some r → ∀ (args : List EV) (h : EH) (v : EV) (h' : EH), r args h = some (v, h') → ∀ (ρ : Ren) (w : World) (args' : Array Value), Rel Go.Proofs.Tryz.prog ρ h w → VRels ρ args args'.toList → CallOk Go.Proofs.Tryz.prog g args' w (CPost Go.Proofs.Tryz.prog ρ h w v h') := by
  intro g r h
  have h' : cond (Nat.beq g 250) (some (sortedI 9 iterB)) (none) = some r := h
  rcases okOpt h' with ⟨b, e⟩ | ⟨_, h'⟩
  · obtain rfl := Nat.eq_of_beq_eq_true b
    cases e
    exact sortedOk'
  cases h'

theorem okK : FnOk Go.Proofs.Tryz.prog (withI kitI) := okI kit_ok
end Go.Eng

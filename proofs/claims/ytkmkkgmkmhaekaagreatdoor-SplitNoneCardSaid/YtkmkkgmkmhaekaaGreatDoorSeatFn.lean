/- A part of the proof of SplitNone: the program's tables as the interpreter reads them. Conditions: none. -/
import Derived.Test.YtkmkkgmkmhaekaaGreatDoorTab
import Derived.Test.YtkmkkgmkmhaekaaGreatDoorEngJ
namespace Go.Eng
open Go

/-! Rows of bytes, and whether two unlike ones have one id. -/
def fstep (a b : Nat) : Nat := (Nat.xor a b * 1099511628211) % 18446744073709551616
noncomputable def fnvF (l : List Nat) : Nat → Nat := List.rec (motive := fun _ => Nat → Nat) (fun a => a) (fun b _ ih a => ih (fstep a b)) l
noncomputable def byteF (e : EV) : Option Nat :=
  onInt e (fun k n => IntKind.rec (motive := fun _ => Int → Option Nat) (fun _ => none) (fun _ => none) (fun _ => none) (fun _ => none) (fun n => Int.rec (fun m => Bool.rec none (some m) (Nat.ble (Nat.succ m) 256)) (fun _ => none) n) (fun _ => none) (fun _ => none) (fun _ => none) k n) none
noncomputable def mapO {α β : Type} (g : α → Option β) (l : List α) : Option (List β) := List.rec (some []) (fun a _ ih => Option.rec none (fun b => Option.rec none (fun bs => some (b :: bs)) ih) (g a)) l
noncomputable def cellsF {β : Type} (h : EH) (g : EV → Option β) (v : EV) : Option (List β) :=
  onSlice v fun n off len _ es => Bool.rec none (Option.rec none (mapO g) (EH.readK h n off len)) (Nat.beq es 1)
noncomputable def rowsF (h : EH) (x : EV) : Option (List (List Nat)) := cellsF h (cellsF h byteF) x
noncomputable def notIn (i : Nat) (l : List Nat) : Bool := List.rec true (fun j _ ih => Bool.rec ih false (Nat.beq i j)) l
noncomputable def okIds (l : List Nat) : Bool := List.rec true (fun i t ih => Bool.rec false (Bool.rec ih false (Nat.beq i 0)) (notIn i t)) l
noncomputable def idF (l : List Nat) : Nat := Nat.rec 0 (fun m _ => Nat.succ m) (fnvF l 14695981039346656037)
noncomputable def idsF (l : List (List Nat)) : List Nat := List.rec [] (fun r _ ih => idF r :: ih) l
noncomputable def shortF (l : List (List Nat)) : Bool := List.rec true (fun r _ ih => Bool.rec false ih (Nat.ble r.length 1000)) l
noncomputable def meetsI (args : List EV) (h : EH) : Option (EV × EH) :=
  match args with
  | [x] => Option.rec none (fun rs => Bool.rec none (Bool.rec none (Bool.rec none (Bool.rec none (some (.bool false, h)) (Nat.ble h.next 100000000)) (Nat.ble rs.length 1000)) (shortF rs)) (okIds (idsF rs))) (rowsF h x)
  | _ => none

noncomputable def tb0 : Tab := {
  und := undT.getF
  inf := infT.getF
  fn := fnT.getF
  eqst := fun t => Option.rec false (fun _ => true) (eqT.getF t)
  ext := fun f => cond (Nat.beq f 231) (some .cmp) (cond (Nat.beq f 234) (some .noEscape) (cond (Nat.beq f 235) (some (.makeNoZero 5)) (cond (Nat.beq f 259) (some .count) (cond (Nat.beq f 267) (some .indexByte) none))))
  intr := fun _ => none }
noncomputable def tb1 : Tab := { tb0 with intr := fun f => Bool.rec none (some meetsI) (Nat.beq f 23) }
end Go.Eng

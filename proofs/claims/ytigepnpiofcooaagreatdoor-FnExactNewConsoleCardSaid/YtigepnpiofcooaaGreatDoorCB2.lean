/-
  Contracts: AwardOk, AwardWorth (both programs). No condition.
-/
import Derived.Test.YtigepnpiofcooaaGreatDoorCB1
namespace Go.Proofs.YtigepnpiofcooaaGreatDoor.Ax
open Go Go.RowKit
set_option linter.unusedSimpArgs false
def at0 (xs : List Int) (i : Nat) : Int := xs.getD i 0
theorem at0_eq {xs : List Int} {i : Nat} (h : i < xs.length) : at0 xs i = xs[i] := getD_at h
def wid (xss : List (Bool × List Int)) : Nat := (xss.headD (true, [])).2.length
def ent (xss : List (Bool × List Int)) (i : Nat) (k : Int) : Int := (xss.getD i (true, [])).2.getD k.toNat 0
end Go.Proofs.YtigepnpiofcooaaGreatDoor.Ax

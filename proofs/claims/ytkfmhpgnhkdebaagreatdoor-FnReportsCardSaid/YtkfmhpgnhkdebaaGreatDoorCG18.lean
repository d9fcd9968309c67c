/-
  Contracts: TransferOrder (the reference). No condition.
-/
import Derived.Test.YtkfmhpgnhkdebaaGreatDoorCG8
import Derived.Test.YtkfmhpgnhkdebaaGreatDoorCB2
import Derived.Test.YtkfmhpgnhkdebaaGreatDoorCG2
import Derived.Test.YtkfmhpgnhkdebaaGreatDoorCG7
namespace Go.Proofs.YtkfmhpgnhkdebaaGreatDoor.Ax
open Go Go.RowKit
set_option linter.unusedSimpArgs false
end Go.Proofs.YtkfmhpgnhkdebaaGreatDoor.Ax
namespace Go.Proofs.YtkfmhpgnhkdebaaGreatDoor.Ax
open Go Go.RowKit
set_option linter.unusedSimpArgs false
end Go.Proofs.YtkfmhpgnhkdebaaGreatDoor.Ax
namespace Go.Proofs.YtkfmhpgnhkdebaaGreatDoor.Ax
open Go Go.RowKit
set_option linter.unusedSimpArgs false
def val (x : Int × Int) : Rat := Rat.divInt x.1 x.2
end Go.Proofs.YtkfmhpgnhkdebaaGreatDoor.Ax

/-
  Seats: what the two programs answer, as plain functions. No condition.
-/
import Derived.Test.YtkfmhpgnhkdebaaGreatDoorCG7
import Derived.Test.YtkfmhpgnhkdebaaGreatDoorCG5
import Derived.Test.YtkfmhpgnhkdebaaGreatDoorCG6
namespace Go.Proofs.YtkfmhpgnhkdebaaGreatDoor.Ax
open Go Go.RowKit
end Go.Proofs.YtkfmhpgnhkdebaaGreatDoor.Ax
namespace Go.Proofs.YtkfmhpgnhkdebaaGreatDoor.Ax
open Go Go.RowKit
set_option linter.unusedSimpArgs false
end Go.Proofs.YtkfmhpgnhkdebaaGreatDoor.Ax

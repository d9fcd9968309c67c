/-
  The plain side of TopCycles: cycles of a pointing, who is left. Plain Lean, no program in sight.
-/
import Derived.Test.YtigepnpiofcooaaGreatDoorCG3
namespace Go.Proofs.YtigepnpiofcooaaGreatDoor.Ax
open Go Go.RowKit
set_option linter.unusedSimpArgs false
set_option linter.unusedVariables false
end Go.Proofs.YtigepnpiofcooaaGreatDoor.Ax
namespace Go.Proofs.YtigepnpiofcooaaGreatDoor.Ax
open Go Go.RowKit
set_option linter.unusedSimpArgs false
set_option linter.unusedVariables false
end Go.Proofs.YtigepnpiofcooaaGreatDoor.Ax

/-
  The plain side of TopCycles: cycles of a pointing, who is left. Plain Lean, no program in sight.
-/
import Derived.Test.YtigepnpiofcooaaGreatCG2
namespace Go.Proofs.YtigepnpiofcooaaGreat.Ax
open Go Go.RowKit
set_option linter.unusedSimpArgs false
set_option linter.unusedVariables false
end Go.Proofs.YtigepnpiofcooaaGreat.Ax
namespace Go.Proofs.YtigepnpiofcooaaGreat.Ax
open Go Go.RowKit
set_option linter.unusedSimpArgs false
set_option linter.unusedVariables false
def pfB (l : List Int) (a b : Int) : Bool := decide (0 ≤ pos l a) && decide (0 ≤ pos l b) && decide (pos l a < pos l b)
end Go.Proofs.YtigepnpiofcooaaGreat.Ax

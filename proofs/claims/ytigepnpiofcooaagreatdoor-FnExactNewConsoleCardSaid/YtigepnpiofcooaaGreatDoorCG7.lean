/-
  Contracts: marks on lists of fractions, FirstShares (both programs). No condition.
-/
import Derived.Test.YtigepnpiofcooaaGreatDoorCG6
import Derived.Test.YtigepnpiofcooaaGreatDoorCG1
import Derived.Test.YtigepnpiofcooaaGreatDoorCG3
import Derived.Test.YtigepnpiofcooaaGreatDoorCB1
import Derived.Test.YtigepnpiofcooaaGreatDoorCK4
namespace Go.Proofs.YtigepnpiofcooaaGreatDoor.Ax
open Go Go.RowKit
set_option linter.unusedSimpArgs false
end Go.Proofs.YtigepnpiofcooaaGreatDoor.Ax
namespace Go.Proofs.YtigepnpiofcooaaGreatDoor.Ax
open Go Go.RowKit
set_option linter.unusedSimpArgs false
section
variable {c : Int → Int → Int} {le : Int → Int → Prop} {D : Int → Prop}
end
def leR (u v : List Int) (x y : Int) : Prop := at0 u x.toNat * at0 v y.toNat ≤ at0 u y.toNat * at0 v x.toNat
instance {u v : List Int} {x y : Int} : Decidable (leR u v x y) := by unfold leR; infer_instance
end Go.Proofs.YtigepnpiofcooaaGreatDoor.Ax
namespace Go.Proofs.YtigepnpiofcooaaGreatDoor.Ax
open Go Go.RowKit
set_option linter.unusedSimpArgs false
def idx (n : Nat) : List Int := (List.range n).map fun (i : Nat) => (i : Int)
end Go.Proofs.YtigepnpiofcooaaGreatDoor.Ax
namespace Go.Proofs.YtigepnpiofcooaaGreatDoor.Ax
open Go Go.RowKit
theorem inR_iff {lo hi x : Int} : inR lo hi x = true ↔ lo ≤ x ∧ x ≤ hi := by simp [inR]
end Go.Proofs.YtigepnpiofcooaaGreatDoor.Ax

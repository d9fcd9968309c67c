/-
  Contracts: the lists over a range of numbers, one after the other, as the program yields them. No condition.
-/
import Derived.Test.YtlkgppincgpfjaaCG50
import Derived.Test.YtlkgppincgpfjaaCG51
import Derived.Test.YtlkgppincgpfjaaCK4
namespace Go.Proofs.Ytlkgppincgpfjaa.Ax
open Go Go.RowKit
set_option linter.unusedSimpArgs false


/-- Behind the search from the end: the first j numbers as they were. -/
def lowTo (low : Int) (l : List Int) (j : Nat) : List Int := l.take j ++ List.replicate (l.length - j) low
theorem lowTo_len {low : Int} {l : List Int} {j : Nat} (h : j ≤ l.length) : (lowTo low l j).length = l.length := by simp [lowTo]; omega

theorem lowTo_set {low v : Int} {l : List Int} {j : Nat} (h : j < l.length) : ((lowTo low l (j + 1)).map int).set j (.v (.int .i64 v)) = (l.take j ++ v :: List.replicate (l.length - (j + 1)) low).map int := by
  have hi : (AV.v (.int .i64 v)) = int v := rfl
  rw [hi, ← List.map_set]
  congr 1
  unfold lowTo
  rw [List.take_succ_eq_append_getElem h, List.append_assoc, List.set_append_right _ _ (by simp; omega)]
  simp [Nat.min_eq_left (Nat.le_of_lt h)]
theorem lowTo_low {low : Int} {l : List Int} {j : Nat} (h : j < l.length) : lowTo low l j = l.take j ++ low :: List.replicate (l.length - (j + 1)) low := by
  unfold lowTo
  rw [show l.length - j = l.length - (j + 1) + 1 by omega, List.replicate_succ]
theorem lowTo_get {low : Int} {l : List Int} {j : Nat} (h : j < l.length) (h' : j < (lowTo low l (j + 1)).length) : (lowTo low l (j + 1))[j] = l[j] := by
  simp only [lowTo, List.getElem_append]
  rw [dif_pos (by simp; omega)]
  simp

end Go.Proofs.Ytlkgppincgpfjaa.Ax

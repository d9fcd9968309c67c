/-
  Lists of truth values. No condition.
-/
import Derived.Test.YtlkgppincgpfjaaCB2
import Derived.Test.YtlkgppincgpfjaaCK4
namespace Go.Proofs.Ytlkgppincgpfjaa.Ax
open Go Go.RowKit

def bools (nl : Bool) (bs : List Bool) : AV := .sl nl 1 (bs.map bool)
theorem map_bool_inj {a b : List Bool} : a.map bool = b.map bool ↔ a = b := (List.map_inj_right (fun x y h => by simpa [bool] using h))

end Go.Proofs.Ytlkgppincgpfjaa.Ax

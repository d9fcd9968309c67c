/-
  Lists of truth values. No condition.
-/
import Derived.Test.YtlkgppincgpfjaaCG87
import Derived.Test.YtlkgppincgpfjaaCG158
namespace Go.Proofs.Ytlkgppincgpfjaa.Ax
open Go Go.RowKit

end Go.Proofs.Ytlkgppincgpfjaa.Ax

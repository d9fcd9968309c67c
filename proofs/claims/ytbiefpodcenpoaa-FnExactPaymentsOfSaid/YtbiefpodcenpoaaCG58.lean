/-
  What the laws on awards lean on. No condition.
-/
import Derived.Test.YtbiefpodcenpoaaCG57
import Derived.Test.YtbiefpodcenpoaaCG21
namespace Go.Proofs.Ytbiefpodcenpoaa.Ax
end Go.Proofs.Ytbiefpodcenpoaa.Ax

/-
  What the laws on rooms lean on. No condition.
-/
import Derived.Test.YtbiefpodcenpoaaCG64
import Derived.Test.YtbiefpodcenpoaaCG21
namespace Go.Proofs.Ytbiefpodcenpoaa.Ax
end Go.Proofs.Ytbiefpodcenpoaa.Ax

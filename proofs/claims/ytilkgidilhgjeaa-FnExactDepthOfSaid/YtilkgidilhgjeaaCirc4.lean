/-
  Circuits: the answer of IsCircuit.
-/
import Derived.Test.YtilkgidilhgjeaaCirc3
namespace Go.Proofs.Ytilkgidilhgjeaa
open Go.RowKit
set_option linter.unusedVariables false
set_option linter.unusedSimpArgs false

end Go.Proofs.Ytilkgidilhgjeaa

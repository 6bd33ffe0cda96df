/-
  The reference's strip, folded: what is tested of it.
  Conditions: none; definitions.
-/
import Derived.Test.YtcjephdjemapbaaDoorRuns0
set_option linter.unusedSimpArgs false
set_option linter.unusedVariables false
namespace Go.Proofs.YtcjephdjemapbaaDoor
open Go.Abs Go.Pur
set_option maxRecDepth 100000
end Go.Proofs.YtcjephdjemapbaaDoor

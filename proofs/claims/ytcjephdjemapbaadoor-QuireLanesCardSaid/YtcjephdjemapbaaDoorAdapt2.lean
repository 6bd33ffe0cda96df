/-
  Lists of truth values; the folds that numbers stand for.
  Conditions: none; lemmas.
-/
import Derived.Test.YtcjephdjemapbaaDoorWorks1
import Derived.Test.YtcjephdjemapbaaDoorRuns0
set_option linter.unusedSimpArgs false
set_option linter.unusedVariables false
namespace Go.Pur
end Go.Pur
namespace Go.Proofs.YtcjephdjemapbaaDoor
open Go.Abs Go.Pur
set_option maxRecDepth 100000
end Go.Proofs.YtcjephdjemapbaaDoor

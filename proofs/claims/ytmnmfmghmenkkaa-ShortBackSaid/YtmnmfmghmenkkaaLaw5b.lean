/-
  The first of the shortest words that are missing: what the functions compute.
  Conditions: none; lemmas.
-/
import Derived.Test.YtmnmfmghmenkkaaLaw5a
import Derived.Test.YtmnmfmghmenkkaaLaw3c
set_option linter.unusedSimpArgs false
set_option linter.unusedVariables false
namespace Go.Proofs.Ytmnmfmghmenkkaa
open Go.Abs Go.Pur
set_option maxRecDepth 100000
end Go.Proofs.Ytmnmfmghmenkkaa

/-
  The number of the places and the first of them: the plain law.
  Conditions: none; lemmas.
-/
import Derived.Test.YtmnmfmghmenkkaaLaw3
set_option linter.unusedSimpArgs false
set_option linter.unusedVariables false
namespace Go.Proofs.Ytmnmfmghmenkkaa
open Go.Abs Go.Pur
set_option maxRecDepth 100000
end Go.Proofs.Ytmnmfmghmenkkaa

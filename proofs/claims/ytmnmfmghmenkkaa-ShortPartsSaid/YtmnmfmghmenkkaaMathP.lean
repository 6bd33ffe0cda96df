/-
  Parts by sets of letters.
  Conditions: none; lemmas.
-/
import Derived.Test.YtmnmfmghmenkkaaMade1
import Derived.Test.YtmnmfmghmenkkaaParts50
set_option linter.unusedSimpArgs false
set_option linter.unusedVariables false
namespace Go.Proofs.Ytmnmfmghmenkkaa
open Go.Abs Go.Pur
set_option maxRecDepth 100000
end Go.Proofs.Ytmnmfmghmenkkaa

/-
  What the functions compute: how many parts.
  Conditions: none; lemmas.
-/
import Derived.Test.YtmnmfmghmenkkaaMathC
import Derived.Test.YtmnmfmghmenkkaaLaw5b
import Derived.Test.YtmnmfmghmenkkaaCount1
set_option linter.unusedSimpArgs false
set_option linter.unusedVariables false
namespace Go.Proofs.Ytmnmfmghmenkkaa
open Go.Abs Go.Pur
set_option maxRecDepth 100000
end Go.Proofs.Ytmnmfmghmenkkaa

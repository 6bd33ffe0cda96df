/-
  What is known of the functions that build texts, as facts of the pure evaluator.
  Conditions: none; lemmas.
-/
import Derived.Test.YtmnmfmghmenkkaaPurBase
import Derived.Test.YtmnmfmghmenkkaaPurG
set_option linter.unusedSimpArgs false
set_option linter.unusedVariables false
namespace Go.Proofs.Ytmnmfmghmenkkaa
open Go.Abs Go.Pur
end Go.Proofs.Ytmnmfmghmenkkaa

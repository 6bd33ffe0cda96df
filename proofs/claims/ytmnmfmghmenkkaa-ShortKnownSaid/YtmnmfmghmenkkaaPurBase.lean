/-
  The seat's policy for the pure evaluator.
  Conditions: none; definitions and closed facts.
-/
import Derived.Test.YtmnmfmghmenkkaaPurTypes
import Derived.Test.YtmnmfmghmenkkaaPurC
set_option linter.unusedSimpArgs false
set_option linter.unusedVariables false
namespace Go.Proofs.Ytmnmfmghmenkkaa
open Go.Abs Go.Pur
end Go.Proofs.Ytmnmfmghmenkkaa

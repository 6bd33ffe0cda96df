/-
  The seat's policy for the pure evaluator, and what its types are (printed by a tool).
  Conditions: none; closed facts.
-/
import Derived.Test.YtmnmfmghmenkkaaPurB
import Derived.Test.YtmnmfmghmenkkaaProg
set_option linter.unusedSimpArgs false
set_option linter.unusedVariables false
namespace Go.Proofs.Ytmnmfmghmenkkaa
open Go.Abs Go.Pur
end Go.Proofs.Ytmnmfmghmenkkaa

/-
  The bytes of a text, as numbers.
  Conditions: none; definitions and lemmas.
-/
import Derived.Test.YtmnmfmghmenkkaaPurI
set_option linter.unusedSimpArgs false
set_option linter.unusedVariables false
set_option linter.unusedSectionVars false
namespace Go.Pur
open Go.Abs
end Go.Pur

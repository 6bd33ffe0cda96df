/-
  All folds of so many letters; a test of all of them, part by part.
  Conditions: none; definitions and lemmas.
-/
import Derived.Test.YtcjephdjemapbaaDoorWorks1
set_option linter.unusedSimpArgs false
set_option linter.unusedVariables false
namespace Go.Proofs.YtcjephdjemapbaaDoor
open Go.Abs Go.Pur
set_option maxRecDepth 100000
def fuel : Nat := 100
theorem fuel_eq : fuel = 100 := rfl
end Go.Proofs.YtcjephdjemapbaaDoor

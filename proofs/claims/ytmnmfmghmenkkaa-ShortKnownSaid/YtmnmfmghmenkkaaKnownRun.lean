/-
  ShortKnown: a closed run of the abstract evaluator.
  Conditions: none; lemmas.
-/
import Derived.Test.YtmnmfmghmenkkaaWorks
namespace Go.Proofs.Ytmnmfmghmenkkaa
set_option maxRecDepth 100000
theorem known_run : yesRun 7 = true := by kernel_rfl
end Go.Proofs.Ytmnmfmghmenkkaa

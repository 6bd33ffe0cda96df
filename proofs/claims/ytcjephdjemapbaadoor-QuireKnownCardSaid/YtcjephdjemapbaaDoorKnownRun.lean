/-
  QuireKnown: the examples of the chapter, by a run of the pure evaluator in the kernel.
  Conditions: none; a closed run.
-/
import Derived.Test.YtcjephdjemapbaaDoorPurBase
set_option linter.unusedSimpArgs false
set_option linter.unusedVariables false
namespace Go.Proofs.YtcjephdjemapbaaDoor
open Go.Abs Go.Pur
set_option maxRecDepth 1000000
theorem quireKnown_run : purRun Tryd.prog Y0 100000 12 [] [] = some (.v (.bool true), [], none) := by kernel_rfl
theorem quireKnown_is : E Tryd.prog Y0 12 [] [] = some (.v (.bool true), [], none) := E_iff.2 ⟨_, quireKnown_run⟩
end Go.Proofs.YtcjephdjemapbaaDoor

/-
  The examples of the chapter that each law ends with, by a run of the pure evaluator in the kernel.
  Conditions: none; a closed run.
-/
import Derived.Test.YtcjephdjemapbaaDoorPurBase
import Derived.Test.YtcjephdjemapbaaDoorPurD
set_option linter.unusedSimpArgs false
set_option linter.unusedVariables false
namespace Go.Proofs.YtcjephdjemapbaaDoor
open Go.Abs Go.Pur
set_option maxRecDepth 1000000
theorem works0 : E Tryd.prog Y0 17 [] [] = some (.v (.bool true), [], none) :=
  runO_E noOrc_le (n := 100000) (by kernel_rfl)
/-- The examples as an oracle. -/
def worksO : PCallF := fun g a hp => match g, a, hp with
  | 17, [], [] => some (.v (.bool true), [], none)
  | _, _, _ => none
theorem worksO_le : PLe worksO (E Tryd.prog Y0) := fun g a hp r h => by
  unfold worksO at h
  split at h
  · cases h; exact works0
  · cases h
end Go.Proofs.YtcjephdjemapbaaDoor

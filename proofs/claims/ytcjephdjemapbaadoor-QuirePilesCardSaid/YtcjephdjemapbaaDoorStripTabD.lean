/-
  The strip, folded: a part of the folds.
  Conditions: none; lemmas.
-/
import Derived.Test.YtcjephdjemapbaaDoorStripTab0
set_option linter.unusedSimpArgs false
set_option linter.unusedVariables false
namespace Go.Proofs.YtcjephdjemapbaaDoor
open Go.Abs Go.Pur
set_option maxRecDepth 100000
theorem rs6_47 : (((strs 6).drop 47).take 6).all okS = true := by kernel_rfl
theorem rs6_53 : (((strs 6).drop 53).take 6).all okS = true := by kernel_rfl
theorem rs6_59 : (((strs 6).drop 59).take 5).all okS = true := by kernel_rfl
end Go.Proofs.YtcjephdjemapbaaDoor

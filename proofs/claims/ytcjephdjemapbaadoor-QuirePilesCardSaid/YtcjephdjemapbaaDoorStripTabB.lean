/-
  The strip, folded: a part of the folds.
  Conditions: none; lemmas.
-/
import Derived.Test.YtcjephdjemapbaaDoorStripTab0
set_option linter.unusedSimpArgs false
set_option linter.unusedVariables false
namespace Go.Proofs.YtcjephdjemapbaaDoor
open Go.Abs Go.Pur
set_option maxRecDepth 100000
theorem rs6_13 : (((strs 6).drop 13).take 6).all okS = true := by kernel_rfl
theorem rs6_19 : (((strs 6).drop 19).take 6).all okS = true := by kernel_rfl
theorem rs6_25 : (((strs 6).drop 25).take 5).all okS = true := by kernel_rfl
end Go.Proofs.YtcjephdjemapbaaDoor

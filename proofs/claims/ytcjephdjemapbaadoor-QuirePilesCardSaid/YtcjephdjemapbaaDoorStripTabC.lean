/-
  The strip, folded: a part of the folds.
  Conditions: none; lemmas.
-/
import Derived.Test.YtcjephdjemapbaaDoorStripTab0
set_option linter.unusedSimpArgs false
set_option linter.unusedVariables false
namespace Go.Proofs.YtcjephdjemapbaaDoor
open Go.Abs Go.Pur
set_option maxRecDepth 100000
theorem rs6_30 : (((strs 6).drop 30).take 6).all okS = true := by kernel_rfl
theorem rs6_36 : (((strs 6).drop 36).take 6).all okS = true := by kernel_rfl
theorem rs6_42 : (((strs 6).drop 42).take 5).all okS = true := by kernel_rfl
end Go.Proofs.YtcjephdjemapbaaDoor

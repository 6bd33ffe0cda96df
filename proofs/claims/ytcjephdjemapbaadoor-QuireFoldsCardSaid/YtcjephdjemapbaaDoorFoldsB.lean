/-
  QuireFolds: a part of the folds.
  Conditions: none; lemmas.
-/
import Derived.Test.YtcjephdjemapbaaDoorFolds0
set_option linter.unusedSimpArgs false
set_option linter.unusedVariables false
namespace Go.Proofs.YtcjephdjemapbaaDoor
open Go.Abs Go.Pur
set_option maxRecDepth 100000
theorem rf6_13 : (((strs 6).drop 13).take 5).all okF = true := by kernel_rfl
theorem rf6_18 : (((strs 6).drop 18).take 5).all okF = true := by kernel_rfl
theorem rf6_23 : (((strs 6).drop 23).take 5).all okF = true := by kernel_rfl
theorem rf6_28 : (((strs 6).drop 28).take 2).all okF = true := by kernel_rfl
end Go.Proofs.YtcjephdjemapbaaDoor

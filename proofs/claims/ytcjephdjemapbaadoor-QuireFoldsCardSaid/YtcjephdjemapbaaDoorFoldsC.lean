/-
  QuireFolds: a part of the folds.
  Conditions: none; lemmas.
-/
import Derived.Test.YtcjephdjemapbaaDoorFolds0
set_option linter.unusedSimpArgs false
set_option linter.unusedVariables false
namespace Go.Proofs.YtcjephdjemapbaaDoor
open Go.Abs Go.Pur
set_option maxRecDepth 100000
theorem rf6_30 : (((strs 6).drop 30).take 5).all okF = true := by kernel_rfl
theorem rf6_35 : (((strs 6).drop 35).take 5).all okF = true := by kernel_rfl
theorem rf6_40 : (((strs 6).drop 40).take 5).all okF = true := by kernel_rfl
theorem rf6_45 : (((strs 6).drop 45).take 2).all okF = true := by kernel_rfl
end Go.Proofs.YtcjephdjemapbaaDoor

/-
  QuireFolds: a part of the folds.
  Conditions: none; lemmas.
-/
import Derived.Test.YtcjephdjemapbaaDoorFolds0
set_option linter.unusedSimpArgs false
set_option linter.unusedVariables false
namespace Go.Proofs.YtcjephdjemapbaaDoor
open Go.Abs Go.Pur
set_option maxRecDepth 100000
theorem rf6_47 : (((strs 6).drop 47).take 5).all okF = true := by kernel_rfl
theorem rf6_52 : (((strs 6).drop 52).take 5).all okF = true := by kernel_rfl
theorem rf6_57 : (((strs 6).drop 57).take 5).all okF = true := by kernel_rfl
theorem rf6_62 : (((strs 6).drop 62).take 2).all okF = true := by kernel_rfl
end Go.Proofs.YtcjephdjemapbaaDoor

/-
  QuireFolds: a part of the folds.
  Conditions: none; lemmas.
-/
import Derived.Test.YtcjephdjemapbaaDoorFolds0
set_option linter.unusedSimpArgs false
set_option linter.unusedVariables false
namespace Go.Proofs.YtcjephdjemapbaaDoor
open Go.Abs Go.Pur
set_option maxRecDepth 100000
theorem rf0 : (strs 0).all okF = true := by kernel_rfl
theorem rf1 : (strs 1).all okF = true := by kernel_rfl
theorem rf2 : (strs 2).all okF = true := by kernel_rfl
theorem rf3 : (strs 3).all okF = true := by kernel_rfl
theorem rf4 : (strs 4).all okF = true := by kernel_rfl
theorem rf5a : (((strs 5).drop 0).take 16).all okF = true := by kernel_rfl
theorem rf5b : (((strs 5).drop 16).take 16).all okF = true := by kernel_rfl
theorem rf6_0 : (((strs 6).drop 0).take 5).all okF = true := by kernel_rfl
theorem rf6_5 : (((strs 6).drop 5).take 5).all okF = true := by kernel_rfl
theorem rf6_10 : (((strs 6).drop 10).take 3).all okF = true := by kernel_rfl
end Go.Proofs.YtcjephdjemapbaaDoor

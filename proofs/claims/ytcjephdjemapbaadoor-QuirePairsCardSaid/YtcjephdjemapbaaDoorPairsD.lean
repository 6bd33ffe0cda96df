/-
  QuirePairs: a part of the folds.
  Conditions: none; lemmas.
-/
import Derived.Test.YtcjephdjemapbaaDoorPairs0
set_option linter.unusedSimpArgs false
set_option linter.unusedVariables false
namespace Go.Proofs.YtcjephdjemapbaaDoor
open Go.Abs Go.Pur
set_option maxRecDepth 100000
theorem rp6_47 : (((strs 6).drop 47).take 8).all okP = true := by kernel_rfl
theorem rp6_55 : (((strs 6).drop 55).take 8).all okP = true := by kernel_rfl
theorem rp6_63 : (((strs 6).drop 63).take 1).all okP = true := by kernel_rfl
end Go.Proofs.YtcjephdjemapbaaDoor

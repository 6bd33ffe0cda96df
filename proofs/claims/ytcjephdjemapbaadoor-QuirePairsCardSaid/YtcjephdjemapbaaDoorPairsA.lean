/-
  QuirePairs: a part of the folds.
  Conditions: none; lemmas.
-/
import Derived.Test.YtcjephdjemapbaaDoorPairs0
set_option linter.unusedSimpArgs false
set_option linter.unusedVariables false
namespace Go.Proofs.YtcjephdjemapbaaDoor
open Go.Abs Go.Pur
set_option maxRecDepth 100000
theorem rp0 : (strs 0).all okP = true := by kernel_rfl
theorem rp1 : (strs 1).all okP = true := by kernel_rfl
theorem rp2 : (strs 2).all okP = true := by kernel_rfl
theorem rp3 : (strs 3).all okP = true := by kernel_rfl
theorem rp4 : (strs 4).all okP = true := by kernel_rfl
theorem rp5a : (((strs 5).drop 0).take 16).all okP = true := by kernel_rfl
theorem rp5b : (((strs 5).drop 16).take 16).all okP = true := by kernel_rfl
theorem rp6_0 : (((strs 6).drop 0).take 8).all okP = true := by kernel_rfl
theorem rp6_8 : (((strs 6).drop 8).take 5).all okP = true := by kernel_rfl
end Go.Proofs.YtcjephdjemapbaaDoor

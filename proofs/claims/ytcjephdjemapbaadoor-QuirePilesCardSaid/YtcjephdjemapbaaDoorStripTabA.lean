/-
  The strip, folded: a part of the folds.
  Conditions: none; lemmas.
-/
import Derived.Test.YtcjephdjemapbaaDoorStripTab0
set_option linter.unusedSimpArgs false
set_option linter.unusedVariables false
namespace Go.Proofs.YtcjephdjemapbaaDoor
open Go.Abs Go.Pur
set_option maxRecDepth 100000
theorem rs0 : (strs 0).all okS = true := by kernel_rfl
theorem rs1 : (strs 1).all okS = true := by kernel_rfl
theorem rs2 : (strs 2).all okS = true := by kernel_rfl
theorem rs3 : (strs 3).all okS = true := by kernel_rfl
theorem rs4 : (strs 4).all okS = true := by kernel_rfl
theorem rs5a : (((strs 5).drop 0).take 16).all okS = true := by kernel_rfl
theorem rs5b : (((strs 5).drop 16).take 16).all okS = true := by kernel_rfl
theorem rs6_0 : (((strs 6).drop 0).take 6).all okS = true := by kernel_rfl
theorem rs6_6 : (((strs 6).drop 6).take 6).all okS = true := by kernel_rfl
theorem rs6_12 : (((strs 6).drop 12).take 1).all okS = true := by kernel_rfl
end Go.Proofs.YtcjephdjemapbaaDoor

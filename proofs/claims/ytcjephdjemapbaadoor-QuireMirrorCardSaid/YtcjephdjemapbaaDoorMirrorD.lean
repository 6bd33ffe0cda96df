/-
  What is left of QuireMirror behind its first step: five folds.
  Conditions: none; closed runs.
-/
import Derived.Test.YtcjephdjemapbaaDoorMirror0
set_option linter.unusedSimpArgs false
set_option linter.unusedVariables false
namespace Go.Proofs.YtcjephdjemapbaaDoor
open Go.Abs Go.Pur
set_option maxRecDepth 1000000
theorem mirror5_10 (m y : Nat) : (((List.range 2).map fun i => (5, 20 + i)).all (good10 m y)) = true := by kernel_rfl
theorem mirror5_11 (m y : Nat) : (((List.range 2).map fun i => (5, 22 + i)).all (good10 m y)) = true := by kernel_rfl
theorem mirror5_12 (m y : Nat) : (((List.range 2).map fun i => (5, 24 + i)).all (good10 m y)) = true := by kernel_rfl
theorem mirror5_13 (m y : Nat) : (((List.range 2).map fun i => (5, 26 + i)).all (good10 m y)) = true := by kernel_rfl
theorem mirror5_14 (m y : Nat) : (((List.range 2).map fun i => (5, 28 + i)).all (good10 m y)) = true := by kernel_rfl
theorem mirror5_15 (m y : Nat) : (((List.range 2).map fun i => (5, 30 + i)).all (good10 m y)) = true := by kernel_rfl
end Go.Proofs.YtcjephdjemapbaaDoor

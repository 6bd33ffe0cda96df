/-
  What is left of QuireMirror behind its first step: five folds.
  Conditions: none; closed runs.
-/
import Derived.Test.YtcjephdjemapbaaDoorMirror0
set_option linter.unusedSimpArgs false
set_option linter.unusedVariables false
namespace Go.Proofs.YtcjephdjemapbaaDoor
open Go.Abs Go.Pur
set_option maxRecDepth 1000000
theorem mirror5_0 (m y : Nat) : (((List.range 2).map fun i => (5, 0 + i)).all (good10 m y)) = true := by kernel_rfl
theorem mirror5_1 (m y : Nat) : (((List.range 2).map fun i => (5, 2 + i)).all (good10 m y)) = true := by kernel_rfl
theorem mirror5_2 (m y : Nat) : (((List.range 2).map fun i => (5, 4 + i)).all (good10 m y)) = true := by kernel_rfl
theorem mirror5_3 (m y : Nat) : (((List.range 2).map fun i => (5, 6 + i)).all (good10 m y)) = true := by kernel_rfl
theorem mirror5_4 (m y : Nat) : (((List.range 2).map fun i => (5, 8 + i)).all (good10 m y)) = true := by kernel_rfl
end Go.Proofs.YtcjephdjemapbaaDoor

/-
  What is left of QuireMirror behind its first step: five folds.
  Conditions: none; closed runs.
-/
import Derived.Test.YtcjephdjemapbaaDoorMirror0
set_option linter.unusedSimpArgs false
set_option linter.unusedVariables false
namespace Go.Proofs.YtcjephdjemapbaaDoor
open Go.Abs Go.Pur
set_option maxRecDepth 1000000
theorem mirror5_5 (m y : Nat) : (((List.range 2).map fun i => (5, 10 + i)).all (good10 m y)) = true := by kernel_rfl
theorem mirror5_6 (m y : Nat) : (((List.range 2).map fun i => (5, 12 + i)).all (good10 m y)) = true := by kernel_rfl
theorem mirror5_7 (m y : Nat) : (((List.range 2).map fun i => (5, 14 + i)).all (good10 m y)) = true := by kernel_rfl
theorem mirror5_8 (m y : Nat) : (((List.range 2).map fun i => (5, 16 + i)).all (good10 m y)) = true := by kernel_rfl
theorem mirror5_9 (m y : Nat) : (((List.range 2).map fun i => (5, 18 + i)).all (good10 m y)) = true := by kernel_rfl
end Go.Proofs.YtcjephdjemapbaaDoor

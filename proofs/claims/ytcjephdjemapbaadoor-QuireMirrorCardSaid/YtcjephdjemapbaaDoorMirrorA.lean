/-
  What is left of QuireMirror behind its first step: at most four folds.
  Conditions: none; closed runs.
-/
import Derived.Test.YtcjephdjemapbaaDoorMirror0
set_option linter.unusedSimpArgs false
set_option linter.unusedVariables false
namespace Go.Proofs.YtcjephdjemapbaaDoor
open Go.Abs Go.Pur
set_option maxRecDepth 1000000
theorem mirror2 (m y : Nat) : ((pairs 3).all (good10 m y)) = true := by kernel_rfl
theorem mirror3_0 (m y : Nat) : (((List.range 4).map fun i => (3, 0 + i)).all (good10 m y)) = true := by kernel_rfl
theorem mirror3_1 (m y : Nat) : (((List.range 4).map fun i => (3, 4 + i)).all (good10 m y)) = true := by kernel_rfl
theorem mirror4_0 (m y : Nat) : (((List.range 4).map fun i => (4, 0 + i)).all (good10 m y)) = true := by kernel_rfl
theorem mirror4_1 (m y : Nat) : (((List.range 4).map fun i => (4, 4 + i)).all (good10 m y)) = true := by kernel_rfl
theorem mirror4_2 (m y : Nat) : (((List.range 4).map fun i => (4, 8 + i)).all (good10 m y)) = true := by kernel_rfl
theorem mirror4_3 (m y : Nat) : (((List.range 4).map fun i => (4, 12 + i)).all (good10 m y)) = true := by kernel_rfl
end Go.Proofs.YtcjephdjemapbaaDoor

/-
  Walks and lanes: the two ways of computing them answer alike.
  Conditions: none; lemmas.
-/
import Derived.Test.YtcjephdjemapbaaDoorRuns0
set_option linter.unusedSimpArgs false
set_option linter.unusedVariables false
namespace Go.Proofs.YtcjephdjemapbaaDoor
open Go.Abs Go.Pur
set_option maxRecDepth 100000
theorem works_true : f17S fuel = some true := by kernel_rfl
theorem app1_at {α : Type} {l : List α} {v : α} (h : l.length ≤ 1000000) : app1 l v = some (l ++ [v]) := by
 unfold app1
 rw [show Nat.ble l.length 1000000 = true from ble_true h]
end Go.Proofs.YtcjephdjemapbaaDoor

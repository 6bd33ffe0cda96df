/-
  Walks and lanes: the two ways of computing them answer alike.
  Conditions: none; lemmas.
-/
import Derived.Test.YtcjephdjemapbaaDoorRuns0
set_option linter.unusedSimpArgs false
set_option linter.unusedVariables false
namespace Go.Proofs.YtcjephdjemapbaaDoor
open Go.Abs Go.Pur
set_option maxRecDepth 100000
theorem works_true : f17S fuel = some true := by kernel_rfl
theorem gS_at {l : List UInt8} {j : Nat} (h : j < l.length) : gS l (j : Int) = some (l[j].toNat : Int) := by
 show (match l[j]? with | some c => some (c.toNat : Int) | none => none) = _
 rw [List.getElem?_eq_getElem h]
end Go.Proofs.YtcjephdjemapbaaDoor

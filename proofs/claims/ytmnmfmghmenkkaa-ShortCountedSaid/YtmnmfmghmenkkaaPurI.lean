/-
  More plain pieces of what functions compute: a list from a place on.
  Conditions: none; definitions and lemmas.
-/
import Derived.Test.YtmnmfmghmenkkaaPurG
set_option linter.unusedSimpArgs false
set_option linter.unusedVariables false
set_option linter.unusedSectionVars false
namespace Go.Pur
open Go.Abs
def quoO (k : IntKind) (x y : Int) : Option Int := match decide (y = 0) with
 | true => none
 | false => some (k.wrap (Int.tdiv x y))
theorem quoO_ok {k : IntKind} {x y r : Int} (h : quoO k x y = some r) : y ≠ 0 ∧ k.wrap (Int.tdiv x y) = r := by
 unfold quoO at h
 by_cases e : y = 0
 ·rw [decide_eq_true e] at h; cases h
 ·rw [decide_eq_false e] at h; exact ⟨e, Option.some.inj h⟩
end Go.Pur

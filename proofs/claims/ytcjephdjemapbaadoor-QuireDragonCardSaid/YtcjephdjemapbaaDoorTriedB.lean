/-
  QuireTried: creases are those of some folds just if folds are returned; all folds are tried.
  Conditions: none; lemmas.
-/
import Derived.Test.YtcjephdjemapbaaDoorCreased
set_option linter.unusedSimpArgs false
set_option linter.unusedVariables false
namespace Go.Proofs.YtcjephdjemapbaaDoor
open Go.Abs Go.Pur
set_option maxRecDepth 100000
theorem letters_vh {l : List UInt8} (hl : l.length ≤ 63) (hv : ∀ x ∈ l, x = 118 ∨ x = 104) : lettersE l 63 118 104 = 0 := by
 unfold lettersE
 rw [if_neg (by omega), if_pos]
 rw [List.all_eq_true]
 intro x hx
 rcases hv x hx with rfl | rfl <;> rfl
end Go.Proofs.YtcjephdjemapbaaDoor

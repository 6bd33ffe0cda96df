/-
  Arguments, as the rows of this seat read them.
  Conditions: none; definitions and lemmas.
-/
import Derived.Test.YtmnmfmghmenkkaaPurBase
import Derived.Test.YtmnmfmghmenkkaaBase
import Derived.Test.YtmnmfmghmenkkaaPurC
set_option linter.unusedSimpArgs false
set_option linter.unusedVariables false
set_option linter.unusedSectionVars false
namespace Go.Proofs.Ytmnmfmghmenkkaa
open Go.Abs Go.Pur Go.ChangeShapes Go.WideShapes Go.ChangeAt Go.RowKit
set_option maxRecDepth 100000
theorem ok : progOK Try.prog = true := by kernel_rfl
section
variable {H : Type} {enc : TypeId × Value → H} {W : World} {r : Reach} {b0 : Nat}
end
end Go.Proofs.Ytmnmfmghmenkkaa

/-
  The chapter's examples hold, in every heap.
  Conditions: none; lemmas.
-/
import Derived.Test.YtcdhajbhpnbdkaaDoorWorks3
set_option linter.unusedSimpArgs false
set_option linter.unusedVariables false
namespace Go.Proofs.YtcdhajbhpnbdkaaDoor
open Go.Abs Go.Pur
set_option maxRecDepth 100000
def fuel : Nat := 5000
theorem fuel_eq : fuel = 5000 := rfl
theorem works_true : f18S fuel = some true := by kernel_rfl
theorem works_is {hp : List (Option (List PV))} : E Tryd.prog Y0 18 [] hp = some (.v (.bool true), hp, none) := f18_is works_true
end Go.Proofs.YtcdhajbhpnbdkaaDoor

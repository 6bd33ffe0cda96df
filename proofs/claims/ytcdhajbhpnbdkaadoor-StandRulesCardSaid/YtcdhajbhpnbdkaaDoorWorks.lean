/-
  The examples of the chapter that each law ends with, by a run of the pure evaluator in the kernel.
  Conditions: none; lemmas.
-/
import Derived.Test.YtcdhajbhpnbdkaaDoorPurBase
set_option linter.unusedSimpArgs false
set_option linter.unusedVariables false
namespace Go.Proofs.YtcdhajbhpnbdkaaDoor
open Go.Abs Go.Pur
set_option maxRecDepth 100000
theorem works1 {X : List PV} : E Tryd.prog Y0 18 [] [some X] = some (.v (.bool true), [some X], none) :=
  E_iff.2 ⟨200, by kernel_rfl⟩
end Go.Proofs.YtcdhajbhpnbdkaaDoor

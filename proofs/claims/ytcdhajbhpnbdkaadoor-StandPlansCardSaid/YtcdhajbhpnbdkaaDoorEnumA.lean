/-
  The reference's lists of 12 times are all, in ascending order: by a run in the kernel.
  Conditions: none; lemmas.
-/
import Derived.Test.YtcdhajbhpnbdkaaDoorEnum
set_option linter.unusedSimpArgs false
set_option linter.unusedVariables false
namespace Go.Proofs.YtcdhajbhpnbdkaaDoor
open Go.Abs Go.Pur
set_option maxRecDepth 100000
theorem okM_12 : (List.range 13).all (okM 12) = true := by kernel_rfl
end Go.Proofs.YtcdhajbhpnbdkaaDoor

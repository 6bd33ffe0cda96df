/-
  The seat's policy for the pure evaluator.
  Conditions: none; definitions and closed facts.
-/
import Derived.Test.YtcdhajbhpnbdkaaDoorPurC
import Derived.Test.YtcdhajbhpnbdkaaDoorPurTypes
import Derived.Test.YtcdhajbhpnbdkaaDoorBase
set_option linter.unusedSimpArgs false
set_option linter.unusedVariables false
namespace Go.Proofs.YtcdhajbhpnbdkaaDoor
open Go.Abs Go.Pur
def Y0 : Pol := ⟨keepOf, [tab32.map (fun n => PV.v (.int .u8 n)), tab64.map (fun n => PV.v (.int .u8 n))]⟩
theorem Y0_keep {f t : Nat} : Y0.keep f t = keepOf f t := rfl
theorem keeps_of {f n m : Nat} (h1 : Nat.ble n m = true) (h2 : keepsTo Y0 f n = true) : (Nat.ble n m && keepsTo Y0 f n) = true := by rw [h1, h2]; rfl
def li (k : Vl) (c : Ck) (l : List Int) : PV := .l k c l.length (l.map iv)
abbrev Sh (l : List Int) : Prop := l.length < 1000000000
end Go.Proofs.YtcdhajbhpnbdkaaDoor

/-
  The seat's policy for the pure evaluator.
  Conditions: none; definitions and closed facts.
-/
import Derived.Test.YtcdhajbhpnbdkaaDoorPurC
import Derived.Test.YtcdhajbhpnbdkaaDoorPurTypes
import Derived.Test.YtcdhajbhpnbdkaaDoorBase
set_option linter.unusedSimpArgs false
set_option linter.unusedVariables false
namespace Go.Proofs.YtcdhajbhpnbdkaaDoor
open Go.Abs Go.Pur
def howOf (f g : Nat) : List (Bool × Nat) := match Nat.beq f 15 with
 | false => []
 | true => match Nat.beq g 62 with
  | true => [(true, 0)]
  | false => match Nat.beq g 33 with
   | true => [(false, 0)]
   | false => match Nat.beq g 41 with
    | true => [(false, 0), (false, 1)]
    | false => []
def partOf (f : Nat) : List (Bool × Nat) := match Nat.beq f 15 with
 | false => []
 | true => [(true, 1)]
def mvOf (f t : Nat) : Bool := match Nat.beq f 15 with
 | false => false
 | true => Nat.beq t 54
def Y0 : Pol := { keep := keepOf, glob := [tab32.map (fun n => PV.v (.int .u8 n)), tab64.map (fun n => PV.v (.int .u8 n))], how := howOf, part := partOf, mv := mvOf }
theorem Y0_keep {f t : Nat} : Y0.keep f t = keepOf f t := rfl
theorem Y0_how {f g : Nat} : Y0.how f g = howOf f g := rfl
theorem Y0_mv {f t : Nat} : Y0.mv f t = mvOf f t := rfl
theorem Y0_part {f : Nat} : Y0.part f = partOf f := rfl
end Go.Proofs.YtcdhajbhpnbdkaaDoor

/-
  The seat's policy for the pure evaluator.
  Conditions: none; definitions and closed facts.
-/
import Derived.Test.YtmnmfmghmenkkaaPurTypes
import Derived.Test.YtmnmfmghmenkkaaPurK
set_option linter.unusedSimpArgs false
set_option linter.unusedVariables false
namespace Go.Proofs.Ytmnmfmghmenkkaa
open Go.Abs Go.Pur
def mvOf (f t : Nat) : Bool := false
def e17 : List KA → Option (List KR)
 | [] => some [.p (.bool true)]
 | _ => none
def yesOf (g : FuncId) : Bool := Nat.beq g 17
def extOf (g : FuncId) : List PV → List (Option (List PV)) → Option (PV × List (Option (List PV)) × Option Nat) := match Nat.beq g 17 with
 | true => libP e17
 | false => fun _ _ => none
def Y0 : Pol := { keep := keepOf, glob := [], mv := mvOf, yes := yesOf, ext := extOf }
theorem works_is {hp : List (Option (List PV))} : E Try.prog Y0 17 [] hp = some (.v (.bool true), hp, none) := E_known rfl rfl
def fzmOf (f t : Nat) : Bool := false
theorem Y0_fzm {f t : Nat} : Y0.fzm f t = fzmOf f t := rfl
theorem Y0_keep {f t : Nat} : Y0.keep f t = keepOf f t := rfl
def howOf (f g : Nat) : List (Bool × Nat) := []
def partOf (f : Nat) : List (Bool × Nat) := []
theorem Y0_how {f g : Nat} : Y0.how f g = howOf f g := rfl
theorem Y0_mv {f t : Nat} : Y0.mv f t = mvOf f t := rfl
theorem Y0_part {f : Nat} : Y0.part f = partOf f := rfl
end Go.Proofs.Ytmnmfmghmenkkaa

/-
  The seat's policy for the pure evaluator.
  Conditions: none; definitions and closed facts.
-/
import Derived.Test.YtcjephdjemapbaaDoorPurTypes
import Derived.Test.YtcjephdjemapbaaDoorTabs
import Derived.Test.YtcjephdjemapbaaDoorPurK
set_option linter.unusedSimpArgs false
set_option linter.unusedVariables false
namespace Go.Proofs.YtcjephdjemapbaaDoor
open Go.Abs Go.Pur
def howOf (f g : Nat) : List (Bool × Nat) := []
def mvOf (f t : Nat) : Bool := match Nat.beq f 8 with
 | true => Nat.beq t 37
 | false => match Nat.beq f 14 with
  | true => match Nat.beq t 70 with
   | true => true
   | false => match Nat.beq t 71 with
    | true => true
    | false => match Nat.beq t 72 with
     | true => true
     | false => Nat.beq t 83
  | false => false
def fzmOf (f t : Nat) : Bool := match Nat.beq f 14 with
 | true => match Nat.beq t 75 with
  | true => true
  | false => Nat.beq t 79
 | false => false
def exL (a b x : UInt8) : UInt8 := if x = a then b else if x = b then a else x
def e54 : List KA → Option (List KR)
 | [.p (.string s), .p (.int .i32 (.ofNat a)), .p (.int .i32 (.ofNat b))] => match Nat.ble s.size 1000, Nat.blt a 128, Nat.blt b 128, s.data.toList.all fun x => Nat.blt x.toNat 128 with
  | true, true, true, true => some [.p (.string ⟨(s.data.toList.map (exL a.toUInt8 b.toUInt8)).toArray⟩)]
  | _, _, _, _ => none
 | _ => none
def yesOf (g : FuncId) : Bool := Nat.beq g 54
def Y0 : Pol := { yes := yesOf, ext := fun _ => libP e54, keep := keepOf, glob := [tab32.map (fun n => PV.v (.int .u8 n)), tab64.map (fun n => PV.v (.int .u8 n))], mv := mvOf, fzm := fzmOf }
theorem Y0_fzm {f t : Nat} : Y0.fzm f t = fzmOf f t := rfl
theorem Y0_keep {f t : Nat} : Y0.keep f t = keepOf f t := rfl
def partOf (f : Nat) : List (Bool × Nat) := []
theorem Y0_how {f g : Nat} : Y0.how f g = howOf f g := rfl
theorem Y0_mv {f t : Nat} : Y0.mv f t = mvOf f t := rfl
theorem Y0_part {f : Nat} : Y0.part f = partOf f := rfl
end Go.Proofs.YtcjephdjemapbaaDoor

/-
  Tables: numbers of creases, all folds, pairs of creases.
  Conditions: none; lemmas.
-/
import Derived.Test.YtcjephdjemapbaaDoorStripTab0
set_option linter.unusedSimpArgs false
set_option linter.unusedVariables false
namespace Go.Proofs.YtcjephdjemapbaaDoor
open Go.Abs Go.Pur
set_option maxRecDepth 100000
abbrev rep (n : Nat) : List UInt8 := List.replicate n 118
def rdU (l : List UInt8) (k f : Nat) : UInt8 := if (l.getD (2 ^ (k - 1 - f) - 1) 0).toNat = 118 then 111 else 117
def rdF (l : List UInt8) (k : Nat) : List UInt8 := (List.range k).map (rdU l k)
def alt (j : Nat) : List UInt8 := (List.replicate 63 118).set j 104
def ok67 (i j : Nat) : Bool := Nat.ble j i || ((match f66S fuel (rep 63) i j, f67S fuel (rep 63) i j with
  | some a, some b => a == b
  | _, _ => false) && (match f66S fuel (alt j) i j, f67S fuel (alt j) i j with
  | some a, some b => a == b
  | _, _ => false))
theorem tab67a : (List.range 20).all (fun i => (List.range 63).all fun j => ok67 i j) = true := by kernel_rfl
theorem tab67b : (List.range 20).all (fun i => (List.range 63).all fun j => ok67 (20 + i) j) = true := by kernel_rfl
theorem tab67c : (List.range 23).all (fun i => (List.range 63).all fun j => ok67 (40 + i) j) = true := by kernel_rfl
end Go.Proofs.YtcjephdjemapbaaDoor

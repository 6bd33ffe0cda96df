/-
  The parts of a word by size, as short.all finds them.
  Conditions: none; definitions.
-/
import Derived.Test.YtmnmfmghmenkkaaPurK
set_option linter.unusedSimpArgs false
set_option linter.unusedVariables false
namespace Go.Proofs.Ytmnmfmghmenkkaa
abbrev Rws := Nat → List (List UInt8)
def addR (k : Nat) (r : Rws) (p : List UInt8) : Rws := if p ∈ r k then r else fun i => if i = k then r k ++ [p] else r i
def rowJ (x : UInt8) (k : Nat) (r : Rws) (j : Nat) : Rws := ((r (k - 1)).take j).foldl (fun r p => addR k r (p ++ [x])) r
def rowK (x : UInt8) (k : Nat) (r : Rws) : Rws := rowJ x k r (r (k - 1)).length
def rowsD (x : UInt8) (r : Rws) : Nat → Nat → Rws
 | 0, _ => r
 | d + 1, n => rowsD x (rowK x n r) d (n - 1)
def rows0 : Rws := fun i => if i = 0 then [[]] else []
def allR (n : Nat) (l : List UInt8) : Rws := l.foldl (fun r x => rowsD x r n n) rows0
abbrev srt (l : List (List UInt8)) : List (List UInt8) := l.mergeSort fun x y => decide (x ≤ y)
end Go.Proofs.Ytmnmfmghmenkkaa

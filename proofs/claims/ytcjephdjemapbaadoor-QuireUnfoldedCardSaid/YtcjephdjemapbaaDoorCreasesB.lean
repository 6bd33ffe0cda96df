/-
  QuireCreases: folds read off creases, and creases that clash, are as stated.
  Conditions: none; lemmas.
-/
import Derived.Test.YtcjephdjemapbaaDoorCreasesTab
import Derived.Test.YtcjephdjemapbaaDoorWalk0
set_option linter.unusedSimpArgs false
set_option linter.unusedVariables false
namespace Go.Proofs.YtcjephdjemapbaaDoor
open Go.Abs Go.Pur
set_option maxRecDepth 100000
theorem take_set {α : Type} {l : List α} {j : Nat} {v : α} (h : j < l.length) : (l.set j v).take (j + 1) = l.take j ++ [v] := by
 rw [List.take_add_one, List.take_set_of_le (Nat.le_refl _), List.getElem?_set_self (by simpa using h)]
 rfl
theorem mkN_at {n : Nat} (h : n ≤ 1000000) : mkN (n : Int) = some n := by
 show (match Nat.ble n 1000000 with | true => some n | false => none) = _
 rw [ble_true h]
theorem gN_at {n : Nat} (h : n ≤ 1000000) : gN n = some () := by
 unfold gN
 rw [show Nat.ble n 1000000 = true from ble_true h]
def cl (l : List UInt8) (i j : Nat) : Bool := (f66S fuel l i j).getD false
section
variable {l : List UInt8} {K : Unit → Option (Int × Int × Int)}
end
end Go.Proofs.YtcjephdjemapbaaDoor

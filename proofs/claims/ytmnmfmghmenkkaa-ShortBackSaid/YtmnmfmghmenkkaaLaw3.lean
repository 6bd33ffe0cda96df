/-
  Both ways of a word and a part: the plain law.
  Conditions: none; lemmas.
-/
import Derived.Test.YtmnmfmghmenkkaaRef21
set_option linter.unusedSimpArgs false
set_option linter.unusedVariables false
namespace Go.Proofs.Ytmnmfmghmenkkaa
open Go.Abs Go.Pur
set_option maxRecDepth 100000
theorem gS_at {l : List UInt8} {k : Nat} (h : k < l.length) : gS l (k : Int) = some (l[k].toNat : Int) := by
 show gS l (Int.ofNat k) = _
 simp only [gS]
 rw [List.getElem?_eq_getElem h]
theorem gI_at {l : List Int} {k : Nat} (h : k < l.length) : gI l (k : Int) = some l[k] := by
 show gI l (Int.ofNat k) = _
 simp only [gI]
 rw [List.getElem?_eq_getElem h]
theorem sI_at {l : List Int} {k : Nat} {v : Int} (h : k < l.length) : sI l (k : Int) v = some (l.set k v) := by
 show sI l (Int.ofNat k) v = _
 simp only [sI]
 rw [show Nat.blt k l.length = true from Nat.ble_eq_true_of_le h]
def bothW (w p : List UInt8) : Int := if checkW w = 0 then checkW p else checkW w
theorem f57_run {w p : List UInt8} {F n : Nat} : f57_L0 F [w, p] 2 (fun _ => some 0) (n + 1 + 1 + 1) 0 = some (bothW w p) := by
 have w0 : IntKind.i64.wrap ((0 : Int) + 1) = 1 := by decide
 have w1 : IntKind.i64.wrap ((1 : Int) + 1) = 2 := by decide
 have g0 : gI [w, p] 0 = some w := rfl
 have g1 : gI [w, p] 1 = some p := rfl
 unfold f57_L0
 simp only [Option.bind_some, g0]
 rw [show decide ((0 : Int) < 2) = true from rfl]
 simp only []
 unfold bothW
 by_cases h : checkW w = 0
 ·rw [decide_eq_true h, if_pos h]
  simp only [w0]
  unfold f57_L0
  simp only [Option.bind_some, g1]
  rw [show decide ((1 : Int) < 2) = true from rfl]
  simp only []
  by_cases h2 : checkW p = 0
  ·rw [decide_eq_true h2, h2]
   simp only [w1]
   unfold f57_L0
   simp only [Option.bind_some]
   rw [show decide ((2 : Int) < 2) = false from rfl]
  ·rw [decide_eq_false h2]
 ·rw [decide_eq_false h, if_neg h]
end Go.Proofs.Ytmnmfmghmenkkaa

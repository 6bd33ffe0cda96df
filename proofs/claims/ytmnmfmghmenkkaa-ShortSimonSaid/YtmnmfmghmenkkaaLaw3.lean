/-
  Both ways of a word and a part: the plain law.
  The number of the places and the first of them: the plain law.
  Errors, and two equal lists: the plain law.
  The number of ways: the plain law.
  The number of ways, all of it: the plain law.
  Conditions: none; definitions and lemmas.
-/
import Derived.Test.YtmnmfmghmenkkaaRef21
set_option linter.unusedSimpArgs false
set_option linter.unusedVariables false
namespace Go.Proofs.Ytmnmfmghmenkkaa
open Go.Abs Go.Pur
set_option maxRecDepth 100000
theorem gI_at {l : List Int} {k : Nat} (h : k < l.length) : gI l (k : Int) = some l[k] := by
 show gI l (Int.ofNat k) = _
 simp only [gI]
 rw [List.getElem?_eq_getElem h]
def bothW (w p : List UInt8) : Int := if checkW w = 0 then checkW p else checkW w
theorem f57_run {w p : List UInt8} {F n : Nat} : f57_L0 F [w, p] 2 (fun _ => some 0) (n + 1 + 1 + 1) 0 = some (bothW w p) := by
 have w0 : IntKind.i64.wrap ((0 : Int) + 1) = 1 := by decide
 have w1 : IntKind.i64.wrap ((1 : Int) + 1) = 2 := by decide
 have g0 : gI [w, p] 0 = some w := rfl
 have g1 : gI [w, p] 1 = some p := rfl
 unfold f57_L0
 simp only [Option.bind_some, g0]
 rw [show decide ((0 : Int) < 2) = true from rfl]
 simp only []
 unfold bothW
 by_cases h : checkW w = 0
 ·rw [decide_eq_true h, if_pos h]
  simp only [w0]
  unfold f57_L0
  simp only [Option.bind_some, g1]
  rw [show decide ((1 : Int) < 2) = true from rfl]
  simp only []
  by_cases h2 : checkW p = 0
  ·rw [decide_eq_true h2, h2]
   simp only [w1]
   unfold f57_L0
   simp only [Option.bind_some]
   rw [show decide ((2 : Int) < 2) = false from rfl]
  ·rw [decide_eq_false h2]
 ·rw [decide_eq_false h, if_neg h]
end Go.Proofs.Ytmnmfmghmenkkaa
set_option linter.unusedSimpArgs false
set_option linter.unusedVariables false
namespace Go.Proofs.Ytmnmfmghmenkkaa
open Go.Abs Go.Pur
set_option maxRecDepth 100000
end Go.Proofs.Ytmnmfmghmenkkaa
set_option linter.unusedSimpArgs false
set_option linter.unusedVariables false
namespace Go.Proofs.Ytmnmfmghmenkkaa
open Go.Abs Go.Pur
set_option maxRecDepth 100000
end Go.Proofs.Ytmnmfmghmenkkaa
set_option linter.unusedSimpArgs false
set_option linter.unusedVariables false
namespace Go.Proofs.Ytmnmfmghmenkkaa
open Go.Abs Go.Pur
set_option maxRecDepth 100000
end Go.Proofs.Ytmnmfmghmenkkaa
set_option linter.unusedSimpArgs false
set_option linter.unusedVariables false
namespace Go.Proofs.Ytmnmfmghmenkkaa
open Go.Abs Go.Pur
set_option maxRecDepth 100000
theorem f57_any {w p : List UInt8} {F : Nat} (hF : 3 ≤ F) : f57S F [w, p] = some (bothW w p) := by
 obtain ⟨n, rfl⟩ : ∃ n, F = n + 1 + 1 + 1 := ⟨F - 3, by omega⟩
 exact f57_run
theorem f57_ok {w p : List UInt8} {F : Nat} (hF : 3 ≤ F) (hw : checkW w = 0) (hp : checkW p = 0) : f57S F [w, p] = some 0 := by
 rw [f57_any hF]
 unfold bothW
 rw [if_pos hw, hp]
end Go.Proofs.Ytmnmfmghmenkkaa

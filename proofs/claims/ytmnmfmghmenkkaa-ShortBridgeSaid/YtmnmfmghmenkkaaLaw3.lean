/-
  Both ways of a word and a part: the plain law.
  Conditions: none; lemmas.
-/
import Derived.Test.YtmnmfmghmenkkaaRef21
set_option linter.unusedSimpArgs false
set_option linter.unusedVariables false
namespace Go.Proofs.Ytmnmfmghmenkkaa
open Go.Abs Go.Pur
set_option maxRecDepth 100000
theorem gI_at {l : List Int} {k : Nat} (h : k < l.length) : gI l (k : Int) = some l[k] := by
 show gI l (Int.ofNat k) = _
 simp only [gI]
 rw [List.getElem?_eq_getElem h]
end Go.Proofs.Ytmnmfmghmenkkaa

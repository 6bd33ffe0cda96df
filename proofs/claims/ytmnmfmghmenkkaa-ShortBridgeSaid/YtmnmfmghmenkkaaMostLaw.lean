/-
  ShortMost: the word with the most parts.
  Conditions: none; lemmas.
-/
import Derived.Test.YtmnmfmghmenkkaaMathP
import Derived.Test.YtmnmfmghmenkkaaMathG
import Derived.Test.YtmnmfmghmenkkaaMost11
set_option linter.unusedSimpArgs false
set_option linter.unusedVariables false
namespace Go.Proofs.Ytmnmfmghmenkkaa
open Go.Abs Go.Pur
set_option maxRecDepth 100000
theorem cyL_get {k i : Nat} (hk0 : 0 < k) (hk : k ≤ 6) : ([97, 98, 99, 100, 101, 102] : List UInt8)[i % k]? = some (cyL k i) := by
 unfold cyL
 have h := Nat.mod_lt i hk0
 generalize i % k = j at h
 have hj : j < 6 := by omega
 match j, hj with
 | 0, _ | 1, _ | 2, _ | 3, _ | 4, _ | 5, _ => rfl
end Go.Proofs.Ytmnmfmghmenkkaa

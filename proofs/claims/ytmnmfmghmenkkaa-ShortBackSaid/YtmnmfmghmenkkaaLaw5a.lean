/-
  Arches: what the functions compute.
  Conditions: none; lemmas.
-/
import Derived.Test.YtmnmfmghmenkkaaMath5
import Derived.Test.YtmnmfmghmenkkaaLaw5
import Derived.Test.YtmnmfmghmenkkaaLaw3e
set_option linter.unusedSimpArgs false
set_option linter.unusedVariables false
namespace Go.Proofs.Ytmnmfmghmenkkaa
open Go.Abs Go.Pur
set_option maxRecDepth 100000
theorem checkW_all {w : List UInt8} (h : checkW w = 0) : w.length ≤ 10 ∧ ∀ c ∈ w, 97 ≤ c.toNat ∧ c.toNat < 103 := by
 unfold checkW at h
 split at h
 ·cases h
 ·split at h
  ·rename_i h1 h2
   refine ⟨by omega, fun c hc => ?_⟩
   have := List.all_eq_true.1 h2 c hc
   unfold letW at this
   simp only [Bool.and_eq_true, decide_eq_true_eq] at this
   exact this
  ·cases h
end Go.Proofs.Ytmnmfmghmenkkaa

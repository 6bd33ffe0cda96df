/-
  What the functions compute: how many parts.
  Conditions: none; lemmas.
-/
import Derived.Test.YtmnmfmghmenkkaaMathC
import Derived.Test.YtmnmfmghmenkkaaLaw5b
import Derived.Test.YtmnmfmghmenkkaaCount1
set_option linter.unusedSimpArgs false
set_option linter.unusedVariables false
namespace Go.Proofs.Ytmnmfmghmenkkaa
open Go.Abs Go.Pur
set_option maxRecDepth 100000
theorem mGet_set {K V : Type} [DecidableEq K] {c : Nat} {k k' : K} {v : V} : ∀ {l : Mp K V}, mGet k (mSet c k' v l) = if k' = k then some v else mGet k l
 | [] => by
  simp only [mSet, mGet]
  by_cases h : k' = k
  ·rw [decide_eq_true h, if_pos h]
  ·rw [decide_eq_false h, if_neg h]
 | e :: l => by
  rw [mSet]
  by_cases h1 : e.1 = k'
  ·rw [decide_eq_true h1]
   simp only [mGet]
   by_cases h : k' = k
   ·rw [decide_eq_true h, if_pos h]
   ·rw [decide_eq_false h, if_neg h, decide_eq_false (show ¬ e.1 = k by rw [h1]; exact h)]
  ·rw [decide_eq_false h1]
   simp only [mGet, mGet_set (l := l)]
   by_cases h : k' = k
   ·subst h
    rw [decide_eq_false h1]
   ·rw [if_neg h, if_neg h]
end Go.Proofs.Ytmnmfmghmenkkaa

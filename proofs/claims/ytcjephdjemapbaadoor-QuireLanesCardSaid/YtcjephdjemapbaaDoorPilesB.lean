/-
  QuirePiles: folds read off piles are as stated.
  Conditions: none; lemmas.
-/
import Derived.Test.YtcjephdjemapbaaDoorCreasesB
set_option linter.unusedSimpArgs false
set_option linter.unusedVariables false
namespace Go.Proofs.YtcjephdjemapbaaDoor
open Go.Abs Go.Pur
set_option maxRecDepth 100000
theorem shrU {a s : Nat} (hs : s < 64) : shrO .u64 (a : Int) (s : Int) = some ((a / 2 ^ s : Nat) : Int) := by
 show some (shrI .u64 (a : Int) (s : Int)) = _
 unfold shrI
 have e : min ((s : Nat) : Int).toNat IntKind.u64.bits = s := by simp [IntKind.bits]; omega
 rw [e]
 congr 1
 have e2 : (2 : Int) ^ s = ((2 ^ s : Nat) : Int) := by simp
 rw [e2, Int.fdiv_eq_ediv_of_nonneg _ (Int.natCast_nonneg _)]
 rfl
section
variable {F : Nat} {p : List Int} {K : Unit → Option (List UInt8 × Int)}
end
end Go.Proofs.YtcjephdjemapbaaDoor

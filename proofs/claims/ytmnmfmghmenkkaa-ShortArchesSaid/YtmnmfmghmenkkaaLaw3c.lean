/-
  Errors, and two equal lists: the plain law.
  Conditions: none; lemmas.
-/
import Derived.Test.YtmnmfmghmenkkaaLaw3
set_option linter.unusedSimpArgs false
set_option linter.unusedVariables false
namespace Go.Proofs.Ytmnmfmghmenkkaa
open Go.Abs Go.Pur
set_option maxRecDepth 100000
theorem f24_run {l : List Int} {F : Nat} (hl : l.length ≤ 10) : ∀ (n k : Nat), l.length + 1 ≤ n + k → k ≤ l.length → f24_L0 F l l (fun _ => some true) n k = some true
 | 0, k, h, hk => absurd h (by omega)
 | n + 1, k, h, hk => by
  unfold f24_L0
  simp only [Option.bind_some]
  by_cases hk' : k < l.length
  ·rw [decide_eq_true (show (k : Int) < (l.length : Int) by omega)]
   have w1 : IntKind.i64.wrap ((k : Int) + 1) = ((k + 1 : Nat) : Int) := wrap_nat (by omega)
   simp only [gI_at hk', Option.bind_some, decide_true, w1]
   exact f24_run hl n (k + 1) (by omega) (by omega)
  ·rw [decide_eq_false (show ¬ (k : Int) < (l.length : Int) by omega)]
theorem f24_any {l : List Int} {F : Nat} (hF : 11 ≤ F) (hl : l.length ≤ 10) : f24S F l l = some true := by
 have := f24_run (F := F) hl F 0 (by omega) (by omega)
 simpa [f24S] using this
end Go.Proofs.Ytmnmfmghmenkkaa

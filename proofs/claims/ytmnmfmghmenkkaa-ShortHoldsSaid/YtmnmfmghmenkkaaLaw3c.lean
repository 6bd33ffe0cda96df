/-
  Errors, and two equal lists: the plain law.
  Conditions: none; lemmas.
-/
import Derived.Test.YtmnmfmghmenkkaaLaw3
set_option linter.unusedSimpArgs false
set_option linter.unusedVariables false
namespace Go.Proofs.Ytmnmfmghmenkkaa
open Go.Abs Go.Pur
set_option maxRecDepth 100000
theorem f22_err {F : Nat} {w p : List UInt8} {x : Int} (h : f57S F [w, p] = some x) (h0 : x ≠ 0) : f22S F w p = some ((.nz, []), x) := by
 unfold f22S
 rw [h]
 simp only [Option.bind_some, decide_eq_false h0]
theorem f24_run {l : List Int} (hl : l.length ≤ 10) : ∀ (n k : Nat), l.length + 1 ≤ n + k → k ≤ l.length → f24_L0 100 l l (fun _ => some true) n k = some true
 | 0, k, h, hk => absurd h (by omega)
 | n + 1, k, h, hk => by
  unfold f24_L0
  simp only [Option.bind_some]
  by_cases hk' : k < l.length
  ·rw [decide_eq_true (show (k : Int) < (l.length : Int) by omega)]
   have w1 : IntKind.i64.wrap ((k : Int) + 1) = ((k + 1 : Nat) : Int) := wrap_nat (by omega)
   simp only [gI_at hk', Option.bind_some, decide_true, w1]
   exact f24_run hl n (k + 1) (by omega) (by omega)
  ·rw [decide_eq_false (show ¬ (k : Int) < (l.length : Int) by omega)]
theorem f24_law {l : List Int} (hl : l.length ≤ 10) : f24S 100 l l = some true := by
 have := f24_run hl 100 0 (by omega) (by omega)
 simpa [f24S] using this
end Go.Proofs.Ytmnmfmghmenkkaa

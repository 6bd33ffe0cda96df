/-
  Words by numbers: what made, sized and taken answer.
  Conditions: none; lemmas.
-/
import Derived.Test.YtmnmfmghmenkkaaLawC
import Derived.Test.YtmnmfmghmenkkaaKnown1
set_option linter.unusedSimpArgs false
set_option linter.unusedVariables false
namespace Go.Proofs.Ytmnmfmghmenkkaa
open Go.Abs Go.Pur
set_option maxRecDepth 100000
theorem tmod_nat {a b : Nat} : Int.tmod (a : Int) (b : Int) = ((a % b : Nat) : Int) := by
 rw [Int.tmod_eq_emod_of_nonneg (by omega)]
 simp
theorem checkW_ok {w : List UInt8} (hw : w.length ≤ 10) (hl : ∀ c ∈ w, c ∈ lets 6) : checkW w = 0 := by
 unfold checkW
 rw [if_neg (by omega), if_pos]
 rw [List.all_eq_true]
 intro c hc
 have := (lets_mem (k := 6) (Nat.le_refl 6)).1 (hl c hc)
 unfold letW
 simp only [Bool.and_eq_true, decide_eq_true_eq]
 omega
theorem lets_up {k : Nat} (hk : k ≤ 6) {c : UInt8} (h : c ∈ lets k) : c ∈ lets 6 := by
 rw [lets_mem hk] at h
 rw [lets_mem (Nat.le_refl 6)]
 omega
theorem sadd_at {a b : List UInt8} (h : a.length + b.length ≤ 1000) : sadd a b = some (a ++ b) := by
 unfold sadd
 rw [Nat.ble_eq_true_of_le (by omega)]
end Go.Proofs.Ytmnmfmghmenkkaa

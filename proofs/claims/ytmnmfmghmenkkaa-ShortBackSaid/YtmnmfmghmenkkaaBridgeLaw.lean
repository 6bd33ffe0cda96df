/-
  ShortBridge: arches, and what is missing: all words are tried.
  Conditions: none; lemmas.
-/
import Derived.Test.YtmnmfmghmenkkaaMostLaw
import Derived.Test.YtmnmfmghmenkkaaBridge14
set_option linter.unusedSimpArgs false
set_option linter.unusedVariables false
namespace Go.Proofs.Ytmnmfmghmenkkaa
open Go.Abs Go.Pur
set_option maxRecDepth 100000
theorem ixB_ge {c : UInt8} : ∀ {l : List UInt8}, (0 ≤ ixB l c ↔ c ∈ l) ∧ -1 ≤ ixB l c
 | [] => by simp [ixB]
 | b :: l => by
  obtain ⟨h1, h2⟩ := ixB_ge (c := c) (l := l)
  rw [ixB]
  by_cases h : b = c
  ·subst h; simp
  ·have hb : (b == c) = false := by simp [h]
   rw [hb]
   have h3 : c ∈ b :: l ↔ c ∈ l := by simp [Ne.symm h]
   rw [h3, ← h1]
   simp only [Bool.false_eq_true, if_false]
   split
   ·rename_i h4
    have h5 : ixB l c = -1 := by simpa using h4
    rw [h5]; omega
   ·rename_i h4
    have h5 : ¬ ixB l c = -1 := by simpa using h4
    omega
theorem sub2_at {w : List UInt8} {a b : Nat} (h1 : a ≤ b) (h2 : b ≤ w.length) : sub2 w (a : Int) (b : Int) = some ((w.take b).drop a) := by
 show sub2 w (Int.ofNat a) (Int.ofNat b) = _
 simp only [sub2]
 rw [Nat.ble_eq_true_of_le h1, Nat.ble_eq_true_of_le h2]
 rfl
end Go.Proofs.Ytmnmfmghmenkkaa

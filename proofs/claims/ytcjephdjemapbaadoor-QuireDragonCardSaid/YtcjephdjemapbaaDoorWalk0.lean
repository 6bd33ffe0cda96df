/-
  Walks and lanes: the two ways of computing them answer alike.
  Conditions: none; lemmas.
-/
import Derived.Test.YtcjephdjemapbaaDoorRuns0
set_option linter.unusedSimpArgs false
set_option linter.unusedVariables false
namespace Go.Proofs.YtcjephdjemapbaaDoor
open Go.Abs Go.Pur
set_option maxRecDepth 100000
theorem works_true : f17S fuel = some true := by kernel_rfl
theorem gS_at {l : List UInt8} {j : Nat} (h : j < l.length) : gS l (j : Int) = some (l[j].toNat : Int) := by
 show (match l[j]? with | some c => some (c.toNat : Int) | none => none) = _
 rw [List.getElem?_eq_getElem h]
theorem app1_at {α : Type} {l : List α} {v : α} (h : l.length ≤ 1000000) : app1 l v = some (l ++ [v]) := by
 unfold app1
 rw [show Nat.ble l.length 1000000 = true from ble_true h]
theorem letters_ascii {l : List UInt8} {m : Int} (h : lettersE l m 118 104 = 0) : (l.length : Int) ≤ m ∧ ∀ c ∈ l, c.toNat < 128 := by
 unfold lettersE at h
 split at h
 ·cases h
 ·rename_i h1
  split at h
  ·rename_i h2
   refine ⟨by omega, fun c hc => ?_⟩
   have := List.all_eq_true.1 h2 c hc
   simp at this
   rcases this with rfl | rfl <;> decide
  ·cases h
end Go.Proofs.YtcjephdjemapbaaDoor

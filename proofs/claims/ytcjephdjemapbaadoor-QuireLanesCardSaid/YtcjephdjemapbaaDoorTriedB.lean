/-
  QuireTried: creases are those of some folds just if folds are returned; all folds are tried.
  Conditions: none; lemmas.
-/
import Derived.Test.YtcjephdjemapbaaDoorCreased
set_option linter.unusedSimpArgs false
set_option linter.unusedVariables false
namespace Go.Proofs.YtcjephdjemapbaaDoor
open Go.Abs Go.Pur
set_option maxRecDepth 100000
theorem letters_vh {l : List UInt8} (hl : l.length ≤ 63) (hv : ∀ x ∈ l, x = 118 ∨ x = 104) : lettersE l 63 118 104 = 0 := by
 unfold lettersE
 rw [if_neg (by omega), if_pos]
 rw [List.all_eq_true]
 intro x hx
 rcases hv x hx with rfl | rfl <;> rfl
theorem creasedL_vh {k y : Nat} : ∀ x ∈ creasedL k y, x = 118 ∨ x = 104 := fun x hx => by
 obtain ⟨i, _, rfl⟩ := List.mem_map.1 hx
 split
 ·exact .inr rfl
 ·exact .inl rfl
theorem creasedL_len {k y : Nat} : (creasedL k y).length = k := by simp [creasedL]
theorem creasedO_at {m y : Nat} (hm : m < 256) : creasedO (m : Int) (y : Int) = some (creasedL (m % 64) y) := by
 show (match Nat.blt m 256 with | true => some (creasedL (m % 64) y) | false => none) = _
 rw [blt_true hm]
end Go.Proofs.YtcjephdjemapbaaDoor

/-
  QuireTried: creases are those of some folds just if folds are returned; all folds are tried.
  Conditions: none; lemmas.
-/
import Derived.Test.YtcjephdjemapbaaDoorCreased
set_option linter.unusedSimpArgs false
set_option linter.unusedVariables false
namespace Go.Proofs.YtcjephdjemapbaaDoor
open Go.Abs Go.Pur
set_option maxRecDepth 100000
def ok62k (k : Nat) : Bool := match f62S fuel (rep (2 ^ k - 1)), f63S fuel (rep (2 ^ k - 1)) with
 | some (a, b), some d => decide (a = (k : Int)) && decide (b = 0) && decide (d = 0)
 | _, _ => false
theorem tab62k : (List.range 7).all ok62k = true := by kernel_rfl
theorem f62_at {l : List UInt8} {k : Nat} (hk : k ≤ 6) (h : lettersE l 63 118 104 = 0) (hl : l.length + 1 = 2 ^ k) : f62S fuel l = some ((k : Int), 0) ∧ f63S fuel l = some 0 := by
 have h64 : 2 ^ k ≤ 64 := Nat.pow_le_pow_right (n := 2) (by decide) hk
 have e0 : l.length = 2 ^ k - 1 := by omega
 have e1 : f62S fuel l = f62S fuel (rep (2 ^ k - 1)) := by
  unfold f62S
  rw [h, letters_rep (by omega), List.length_replicate, e0]
 have e2 : f63S fuel l = f63S fuel (rep (2 ^ k - 1)) := by
  unfold f63S
  rw [h, letters_rep (by omega), List.length_replicate, e0]
 have t := List.all_eq_true.1 tab62k k (List.mem_range.2 (by omega))
 unfold ok62k at t
 rw [e1, e2]
 revert t
 cases f62S fuel (rep (2 ^ k - 1)) with
 | none => intro t; simp at t
 | some ab =>
  obtain ⟨a, b⟩ := ab
  cases f63S fuel (rep (2 ^ k - 1)) with
  | none => intro t; simp at t
  | some d =>
   intro t
   simp only [Bool.and_eq_true, decide_eq_true_eq] at t
   obtain ⟨⟨rfl, rfl⟩, rfl⟩ := t
   exact ⟨rfl, rfl⟩
theorem letters_vh {l : List UInt8} (hl : l.length ≤ 63) (hv : ∀ x ∈ l, x = 118 ∨ x = 104) : lettersE l 63 118 104 = 0 := by
 unfold lettersE
 rw [if_neg (by omega), if_pos]
 rw [List.all_eq_true]
 intro x hx
 rcases hv x hx with rfl | rfl <;> rfl
end Go.Proofs.YtcjephdjemapbaaDoor

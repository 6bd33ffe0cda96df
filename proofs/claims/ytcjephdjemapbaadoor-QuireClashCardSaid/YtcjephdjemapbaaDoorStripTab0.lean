/-
  The reference's strip, folded: what is tested of it.
  Conditions: none; definitions.
-/
import Derived.Test.YtcjephdjemapbaaDoorRuns0
set_option linter.unusedSimpArgs false
set_option linter.unusedVariables false
namespace Go.Proofs.YtcjephdjemapbaaDoor
open Go.Abs Go.Pur
set_option maxRecDepth 100000
def beqS : List UInt8 → List UInt8 → Bool
 | [], [] => true
 | a :: l, b :: m => match Nat.beq a.toNat b.toNat with
  | true => beqS l m
  | false => false
 | _, _ => false
theorem beqS_ok : ∀ {l m : List UInt8}, beqS l m = true → l = m
 | [], [], _ => rfl
 | a :: l, b :: m, h => by
  unfold beqS at h
  cases hb : Nat.beq a.toNat b.toNat with
  | false => simp [hb] at h
  | true =>
   simp [hb] at h
   rw [UInt8.toNat_inj.1 (Nat.eq_of_beq_eq_true hb), beqS_ok h]
 | [], _ :: _, h => by cases h
 | _ :: _, [], h => by cases h
end Go.Proofs.YtcjephdjemapbaaDoor

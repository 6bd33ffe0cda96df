/-
  The reference's strip, folded: what is tested of it.
  Conditions: none; definitions.
-/
import Derived.Test.YtcjephdjemapbaaDoorRuns0
set_option linter.unusedSimpArgs false
set_option linter.unusedVariables false
namespace Go.Proofs.YtcjephdjemapbaaDoor
open Go.Abs Go.Pur
set_option maxRecDepth 100000
def beqL : List Int → List Int → Bool
  | [], [] => true
  | .ofNat a :: l, .ofNat b :: m => match Nat.beq a b with
    | true => beqL l m
    | false => false
  | _, _ => false
theorem beqL_ok : ∀ {l m : List Int}, beqL l m = true → l = m
  | [], [], _ => rfl
  | .ofNat a :: l, .ofNat b :: m, h => by
    unfold beqL at h
    cases hb : Nat.beq a b with
    | false => simp [hb] at h
    | true =>
      simp [hb] at h
      rw [Nat.eq_of_beq_eq_true hb, beqL_ok h]
  | [], .ofNat _ :: _, h => by cases h
  | [], .negSucc _ :: _, h => by cases h
  | .ofNat _ :: _, [], h => by cases h
  | .negSucc _ :: _, [], h => by cases h
  | .negSucc _ :: _, _ :: _, h => by cases h
  | .ofNat _ :: _, .negSucc _ :: _, h => by cases h
def beqS : List UInt8 → List UInt8 → Bool
  | [], [] => true
  | a :: l, b :: m => match Nat.beq a.toNat b.toNat with
    | true => beqS l m
    | false => false
  | _, _ => false
theorem beqS_ok : ∀ {l m : List UInt8}, beqS l m = true → l = m
  | [], [], _ => rfl
  | a :: l, b :: m, h => by
    unfold beqS at h
    cases hb : Nat.beq a.toNat b.toNat with
    | false => simp [hb] at h
    | true =>
      simp [hb] at h
      rw [UInt8.toNat_inj.1 (Nat.eq_of_beq_eq_true hb), beqS_ok h]
  | [], _ :: _, h => by cases h
  | _ :: _, [], h => by cases h
def okS (l : List UInt8) : Bool := match f56S fuel l with
  | some ((_, p), _, c) => beqL p (pileL l) && beqS c (creasesL l)
  | none => false
theorem okS_ok {l : List UInt8} (h : okS l = true) : ∃ c c' t, f56S fuel l = some ((c, pileL l), (c', t), creasesL l) := by
  unfold okS at h
  cases e : f56S fuel l with
  | none => rw [e] at h; cases h
  | some r =>
    obtain ⟨⟨c, p⟩, ⟨c', t⟩, s⟩ := r
    rw [e] at h
    simp only [Bool.and_eq_true] at h
    rw [beqL_ok h.1, beqS_ok h.2]
    exact ⟨_, _, _, rfl⟩
end Go.Proofs.YtcjephdjemapbaaDoor

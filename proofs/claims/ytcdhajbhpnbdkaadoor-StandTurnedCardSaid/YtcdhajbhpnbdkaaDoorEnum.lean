/-
  All lists of times, in ascending order.
  The reference's lists of 12 times are all, in ascending order: by a run in the kernel.
  The reference's lists of up to 11 times are all, in ascending order: by a run in the kernel.
  Conditions: none; definitions and lemmas.
-/
import Derived.Test.YtcdhajbhpnbdkaaDoorSteps
set_option linter.unusedSimpArgs false
set_option linter.unusedVariables false
namespace Go.Proofs.YtcdhajbhpnbdkaaDoor
open Go.Abs Go.Pur
set_option maxRecDepth 100000
def incF (n f : Nat) : List Int → Prop
 | [] => True
 | a :: l => ∃ t : Nat, a = (t : Int) ∧ f ≤ t ∧ t < n ∧ incF n (t + 1) l
def ltL : List Int → List Int → Bool
 | _, [] => false
 | [], _ :: _ => true
 | a :: l, b :: m => decide (a < b) || (decide (a = b) && ltL l m)
theorem ltL_trans : ∀ {a b c : List Int}, ltL a b = true → ltL b c = true → ltL a c = true
 | a, b, [], _, h => by cases b <;> cases h
 | a, [], _ :: _, h, _ => by cases a <;> cases h
 | [], _ :: _, _ :: _, _, _ => rfl
 | x :: a, y :: b, z :: c, h1, h2 => by
  simp only [ltL, Bool.or_eq_true, Bool.and_eq_true, decide_eq_true_eq] at h1 h2 ⊢
  rcases h1 with h1 | ⟨rfl, h1⟩
  ·rcases h2 with h2 | ⟨rfl, h2⟩
   ·left; omega
   ·left; exact h1
  ·rcases h2 with h2 | ⟨rfl, h2⟩
   ·left; exact h2
   ·right; exact ⟨rfl, ltL_trans h1 h2⟩
theorem ltL_irr : ∀ {a : List Int}, ltL a a = false
 | [] => rfl
 | x :: a => by simp [ltL, ltL_irr]
def bef (a b : List Int) : Bool := Nat.blt a.length b.length || (Nat.beq a.length b.length && ltL a b)
theorem bef_iff {a b : List Int} : bef a b = true ↔ a.length < b.length ∨ a.length = b.length ∧ ltL a b = true := by
 unfold bef
 rw [Bool.or_eq_true, Bool.and_eq_true, Nat.beq_eq]
 exact or_congr_left (iff_of_eq Nat.blt_eq)
theorem bef_trans {a b c : List Int} (h1 : bef a b = true) (h2 : bef b c = true) : bef a c = true := by
 rw [bef_iff] at *
 rcases h1 with h1 | ⟨e1, h1⟩ <;> rcases h2 with h2 | ⟨e2, h2⟩
 ·left; omega
 ·left; omega
 ·left; omega
 ·right; exact ⟨by omega, ltL_trans h1 h2⟩
theorem bef_irr {a : List Int} : bef a a = false := by
 cases h : bef a a with
 | false => rfl
 | true =>
  rw [bef_iff] at h
  rcases h with h | ⟨_, h⟩
  ·omega
  ·rw [ltL_irr] at h; cases h
end Go.Proofs.YtcdhajbhpnbdkaaDoor
set_option linter.unusedSimpArgs false
set_option linter.unusedVariables false
namespace Go.Proofs.YtcdhajbhpnbdkaaDoor
open Go.Abs Go.Pur
set_option maxRecDepth 100000
end Go.Proofs.YtcdhajbhpnbdkaaDoor
set_option linter.unusedSimpArgs false
set_option linter.unusedVariables false
namespace Go.Proofs.YtcdhajbhpnbdkaaDoor
open Go.Abs Go.Pur
set_option maxRecDepth 100000
theorem incF_mono {n f : Nat} : ∀ {l : List Int}, incF n (f + 1) l → incF n f l
 | [], _ => trivial
 | a :: l, ⟨t, e, h1, h2, h3⟩ => ⟨t, e, by omega, h2, h3⟩
theorem incF_ge {n : Nat} : ∀ {l : List Int} {f : Nat}, incF n f l → ∀ x ∈ l, (f : Int) ≤ x ∧ x < n
 | [], _, _, x, h => by cases h
 | a :: l, f, ⟨t, e, h1, h2, h3⟩, x, h => by
  rcases List.mem_cons.1 h with rfl | h
  ·omega
  ·have := incF_ge h3 x h; omega
theorem incF_ext {n : Nat} : ∀ {l m : List Int} {f : Nat}, incF n f l → incF n f m → (∀ x, x ∈ l ↔ x ∈ m) → l = m
 | [], [], _, _, _, _ => rfl
 | [], b :: m, _, _, _, h => by have := (h b).2 (by simp); cases this
 | a :: l, [], _, _, _, h => by have := (h a).1 (by simp); cases this
 | a :: l, b :: m, f, ⟨t, ea, a1, a2, a3⟩, ⟨u, eb, b1, b2, b3⟩, h => by
  have x1 := (h a).1 (by simp)
  have x2 := (h b).2 (by simp)
  have hab : a = b := by
   rcases List.mem_cons.1 x1 with e | x1
   ·exact e
   ·rcases List.mem_cons.1 x2 with e | x2
    ·exact e.symm
    ·have := incF_ge b3 a x1; have := incF_ge a3 b x2; omega
  subst hab
  have htu : t = u := by omega
  subst htu
  rw [incF_ext a3 b3 (fun x => ?_)]
  have hx := h x
  rw [List.mem_cons, List.mem_cons] at hx
  constructor
  ·intro hl
   have := incF_ge a3 x hl
   rcases hx.1 (Or.inr hl) with e | hm
   ·omega
   ·exact hm
  ·intro hm
   have := incF_ge b3 x hm
   rcases hx.2 (Or.inr hm) with e | hl
   ·omega
   ·exact hl
theorem incF_filter {n : Nat} {q : Nat → Bool} : ∀ (k f : Nat), (∀ t, q t = true → t < n) → incF n f (((List.range' f k).filter q).map Int.ofNat)
 | 0, f, _ => by simp [incF]
 | k + 1, f, h => by
  rw [List.range'_succ]
  have ih := incF_filter k (f + 1) h
  cases hq : q f with
  | true =>
   rw [List.filter_cons_of_pos hq, List.map_cons]
   exact ⟨f, rfl, Nat.le_refl _, h f hq, ih⟩
  | false =>
   rw [List.filter_cons_of_neg (by simp [hq])]
   exact incF_mono ih
theorem bitsL_inc {n s : Nat} (hs : s < 2 ^ n) : incF n 0 (bitsL s) := by
 unfold bitsL bitsN
 rw [List.range_eq_range']
 refine incF_filter 12 0 fun t ht => ?_
 rcases Nat.lt_or_ge t n with h | h
 ·exact h
 ·have h2 : 2 ^ n ≤ 2 ^ t := Nat.pow_le_pow_right (by decide) h
  rw [Nat.testBit_lt_two_pow (by omega)] at ht; cases ht
end Go.Proofs.YtcdhajbhpnbdkaaDoor

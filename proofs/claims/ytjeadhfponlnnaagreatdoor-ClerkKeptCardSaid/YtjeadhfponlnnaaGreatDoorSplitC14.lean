/-
  The parts of a line, as the library makes them.
  Conditions: none; lemmas.
-/
import Derived.Test.YtjeadhfponlnnaaGreatDoorPlain14
import Derived.Lib.Split
import Derived.Lib.SplitLaws
import Derived.Lib.IndexBytes
set_option linter.unusedSimpArgs false
set_option linter.unusedVariables false
namespace Go.Clerk
open Go.Lib
theorem splitC_ne {c : UInt8} : ∀ {l : Tx}, splitC c l ≠ []
 | [], h => by cases h
 | x :: l, h => by
  unfold splitC at h
  split at h <;> cases h
theorem splitC_cons {c x : UInt8} {l : Tx} : splitC c (x :: l) = if x = c then [] :: splitC c l else match splitC c l with
  | [] => [[x]]
  | a :: r => (x :: a) :: r := by
 conv => lhs; unfold splitC
 by_cases h : x = c
 ·rw [decide_eq_true h, if_pos h]
 ·rw [decide_eq_false h, if_neg h]
  cases splitC c l <;> rfl
theorem splitC_miss {c : UInt8} : ∀ {l : Tx}, indexByte l c = -1 → splitC c l = [l]
 | [], _ => rfl
 | x :: l, h => by
  unfold indexByte at h
  split at h
  ·cases h
  ·rename_i hx
   have hx' : ¬ x = c := by simpa using hx
   split at h
   ·rename_i h2
    have h2' : indexByte l c = -1 := by simpa using h2
    rw [splitC_cons, if_neg hx', splitC_miss h2']
   ·have := indexByte_ge l c
    omega
theorem splitC_hit {c : UInt8} : ∀ {l : Tx} {i : Nat}, indexByte l c = i → splitC c l = l.take i :: splitC c (l.drop (i + 1))
 | [], i, h => by
  have : (-1 : Int) = i := h
  omega
 | x :: l, i, h => by
  unfold indexByte at h
  split at h
  ·rename_i hx
   have hx' : x = c := by simpa using hx
   obtain rfl : i = 0 := by omega
   rw [splitC_cons, if_pos hx']
   rfl
  ·rename_i hx
   have hx' : ¬ x = c := by simpa using hx
   split at h
   ·omega
   ·rename_i h2
    have := indexByte_ge l c
    have h2' : indexByte l c ≠ -1 := by simpa using h2
    obtain ⟨j, rfl⟩ : ∃ j, i = j + 1 := ⟨i - 1, by omega⟩
    rw [splitC_cons, if_neg hx', splitC_hit (i := j) (by omega)]
    rfl
theorem splitK_C {c : UInt8} : ∀ (n : Nat) (l : Tx), l.length ≤ n → splitK [c] 0 (count l [c]) l = splitC c l := by
 intro n
 induction n with
 | zero =>
  intro l hl
  obtain rfl : l = [] := List.eq_nil_of_length_eq_zero (by omega)
  have h : index ([] : Tx) [c] = -1 := by rw [index_one]; rfl
  rw [count_miss h]
  rfl
 | succ n ih =>
  intro l hl
  rcases Int.lt_or_le (index l [c]) 0 with h | h
  ·have h1 : index l [c] = -1 := by
    rw [index_one] at h ⊢
    have := indexByte_ge l c
    omega
   rw [count_miss h1, splitC_miss (by rw [← index_one]; exact h1)]
   rfl
  ·obtain ⟨i, hi⟩ := Int.eq_ofNat_of_zero_le h
   have hi' : index l [c] = (i : Int) := hi
   rw [count_hit (by simp) hi', Nat.add_comm 1]
   unfold splitK
   rw [if_neg (by rw [hi']; simp), hi']
   have hib : indexByte l c = (i : Int) := by rw [← index_one]; exact hi'
   rw [splitC_hit hib]
   simp only [Int.toNat_natCast, Nat.add_zero, List.length_cons, List.length_nil, Nat.zero_add]
   rw [ih (l.drop (i + 1)) (by
    rw [List.length_drop]
    have : l ≠ [] := fun e => by rw [e] at hib; have : (-1 : Int) = i := hib; omega
    have := List.length_pos_iff.2 this
    omega)]
theorem splitB_C {c : UInt8} {l : Tx} : (splitB ⟨#[c]⟩ 0 (countB ⟨l.toArray⟩ ⟨#[c]⟩) ⟨l.toArray⟩).map (·.data.toList) = splitC c l := by
 rw [splitB_data]
 exact splitK_C l.length l (Nat.le_refl _)
theorem splitC_len {c : UInt8} {l : Tx} : (splitC c l).length = countB ⟨l.toArray⟩ ⟨#[c]⟩ + 1 := by
 rw [← splitB_C, List.length_map]
 exact splitB_all ⟨#[c]⟩ (by show 1 ≤ (#[c] : Array UInt8).size; simp) 0 _ _ rfl
theorem splitC_bound {c : UInt8} : ∀ {l : Tx}, (splitC c l).length ≤ l.length + 1 ∧ ∀ x ∈ splitC c l, x.length ≤ l.length
 | [] => ⟨by simp [splitC], fun x hx => by simp [splitC] at hx; subst hx; simp⟩
 | y :: l => by
  obtain ⟨h1, h2⟩ := splitC_bound (c := c) (l := l)
  rw [splitC_cons]
  split
  ·refine ⟨by simp; omega, fun x hx => ?_⟩
   rcases List.mem_cons.1 hx with rfl | hx
   ·simp
   ·have := h2 x hx; simp; omega
  ·split
   ·rename_i h
    exact absurd h splitC_ne
   ·rename_i a r h
    rw [h] at h1 h2
    refine ⟨by simp at h1 ⊢; omega, fun x hx => ?_⟩
    rcases List.mem_cons.1 hx with rfl | hx
    ·have := h2 a List.mem_cons_self; simp; omega
    ·have := h2 x (List.mem_cons_of_mem _ hx); simp; omega
end Go.Clerk

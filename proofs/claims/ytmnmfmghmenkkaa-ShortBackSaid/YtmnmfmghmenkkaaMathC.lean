/-
  Parts of words: all of them, each once; how many there are.
  Conditions: none; lemmas.
-/
import Derived.Test.YtmnmfmghmenkkaaMath5
import Derived.Test.YtmnmfmghmenkkaaPurM
set_option linter.unusedSimpArgs false
set_option linter.unusedVariables false
namespace Go.Proofs.Ytmnmfmghmenkkaa
open Go.Abs Go.Pur
set_option maxRecDepth 100000
theorem leftW_sub : ∀ {w p : List UInt8}, leftW w p = true ↔ p.Sublist w
 | w, [] => by simp [left_nil]
 | [], d :: p => by rw [leftW]; simp
 | c :: w, d :: p => by
  rw [leftW]
  by_cases h : c = d
  ·subst h
   rw [if_pos rfl, leftW_sub, List.cons_sublist_cons]
  ·rw [if_neg h, leftW_sub]
   constructor
   ·exact fun e => e.cons _
   ·intro e
    cases e with
    | cons _ e => exact e
    | cons_cons => exact absurd rfl h
theorem leftW_eq {w p w' p' : List UInt8} (h : p.Sublist w ↔ p'.Sublist w') : leftW w p = leftW w' p' := by
 rw [Bool.eq_iff_iff, leftW_sub, leftW_sub, h]
def prt : List UInt8 → List (List UInt8)
 | [] => [[]]
 | c :: w => prt w ++ ((prt w).filter fun p => !leftW w (c :: p)).map (c :: ·)
theorem prt_mem : ∀ {w p : List UInt8}, p ∈ prt w ↔ leftW w p = true
 | [], p => by
  cases p with
  | nil => simp [prt, leftW]
  | cons d p => simp [prt, leftW]
 | c :: w, p => by
  rw [prt, List.mem_append, List.mem_map, prt_mem]
  cases p with
  | nil => simp [left_nil]
  | cons d p =>
   rw [leftW]
   by_cases h : c = d
   ·subst h
    rw [if_pos rfl]
    constructor
    ·rintro (h | ⟨q, hq, e⟩)
     ·exact leftW_sub.2 ((List.sublist_cons_self _ _).trans (leftW_sub.1 h))
     ·cases e
      exact prt_mem.1 (List.mem_filter.1 hq).1
    ·intro h
     by_cases h2 : leftW w (c :: p) = true
     ·exact .inl h2
     ·exact .inr ⟨p, List.mem_filter.2 ⟨prt_mem.2 h, by simp [h2]⟩, rfl⟩
   ·rw [if_neg h]
    constructor
    ·rintro (h | ⟨q, hq, e⟩)
     ·exact h
     ·cases e; exact absurd rfl h
    ·exact .inl
theorem prt_nodup : ∀ {w : List UInt8}, (prt w).Nodup
 | [] => by simp [prt]
 | c :: w => by
  rw [prt, List.nodup_append]
  refine ⟨prt_nodup, ?_, ?_⟩
  ·unfold List.Nodup
   rw [List.pairwise_map]
   exact (prt_nodup.filter _).imp fun h e => h (List.cons.inj e).2
  ·intro a ha b hb e
   subst e
   obtain ⟨q, hq, rfl⟩ := List.mem_map.1 hb
   have h1 := (List.mem_filter.1 hq).2
   rw [prt_mem.1 ha] at h1
   cases h1
theorem same_len {α : Type} [DecidableEq α] {l m : List α} (hl : l.Nodup) (hm : m.Nodup) (h : ∀ x, x ∈ l ↔ x ∈ m) : l.length = m.length :=
 Nat.le_antisymm (nodup_le hl fun x hx => (h x).1 hx) (nodup_le hm fun x hx => (h x).2 hx)
theorem len_parts {α : Type} (f : α → Bool) : ∀ l : List α, l.length = (l.filter f).length + (l.filter fun x => !f x).length
 | [] => rfl
 | a :: l => by
  have h := len_parts f l
  cases hf : f a <;> simp [hf] <;> omega
def dl (w : List UInt8) : Nat := (prt w).length
theorem tk_sub {f : Nat → Bool} {l : List UInt8} : ∀ k, (tk f l k).Sublist (l.take k)
 | 0 => by simp [tk]
 | k + 1 => by
  rw [tk, List.take_add_one]
  refine List.Sublist.append (tk_sub k) ?_
  split
  ·exact List.Sublist.refl _
  ·exact List.nil_sublist _
end Go.Proofs.Ytmnmfmghmenkkaa

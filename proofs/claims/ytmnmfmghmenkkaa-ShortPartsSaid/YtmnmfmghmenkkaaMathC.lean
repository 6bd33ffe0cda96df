/-
  Parts of words: all of them, each once; how many there are.
  Conditions: none; lemmas.
-/
import Derived.Test.YtmnmfmghmenkkaaMath5
import Derived.Test.YtmnmfmghmenkkaaPurM
set_option linter.unusedSimpArgs false
set_option linter.unusedVariables false
namespace Go.Proofs.Ytmnmfmghmenkkaa
open Go.Abs Go.Pur
set_option maxRecDepth 100000
theorem leftW_sub : ∀ {w p : List UInt8}, leftW w p = true ↔ p.Sublist w
 | w, [] => by simp [left_nil]
 | [], d :: p => by rw [leftW]; simp
 | c :: w, d :: p => by
  rw [leftW]
  by_cases h : c = d
  ·subst h
   rw [if_pos rfl, leftW_sub, List.cons_sublist_cons]
  ·rw [if_neg h, leftW_sub]
   constructor
   ·exact fun e => e.cons _
   ·intro e
    cases e with
    | cons _ e => exact e
    | cons_cons => exact absurd rfl h
def prt : List UInt8 → List (List UInt8)
 | [] => [[]]
 | c :: w => prt w ++ ((prt w).filter fun p => !leftW w (c :: p)).map (c :: ·)
theorem prt_mem : ∀ {w p : List UInt8}, p ∈ prt w ↔ leftW w p = true
 | [], p => by
  cases p with
  | nil => simp [prt, leftW]
  | cons d p => simp [prt, leftW]
 | c :: w, p => by
  rw [prt, List.mem_append, List.mem_map, prt_mem]
  cases p with
  | nil => simp [left_nil]
  | cons d p =>
   rw [leftW]
   by_cases h : c = d
   ·subst h
    rw [if_pos rfl]
    constructor
    ·rintro (h | ⟨q, hq, e⟩)
     ·exact leftW_sub.2 ((List.sublist_cons_self _ _).trans (leftW_sub.1 h))
     ·cases e
      exact prt_mem.1 (List.mem_filter.1 hq).1
    ·intro h
     by_cases h2 : leftW w (c :: p) = true
     ·exact .inl h2
     ·exact .inr ⟨p, List.mem_filter.2 ⟨prt_mem.2 h, by simp [h2]⟩, rfl⟩
   ·rw [if_neg h]
    constructor
    ·rintro (h | ⟨q, hq, e⟩)
     ·exact h
     ·cases e; exact absurd rfl h
    ·exact .inl
theorem prt_nodup : ∀ {w : List UInt8}, (prt w).Nodup
 | [] => by simp [prt]
 | c :: w => by
  rw [prt, List.nodup_append]
  refine ⟨prt_nodup, ?_, ?_⟩
  ·unfold List.Nodup
   rw [List.pairwise_map]
   exact (prt_nodup.filter _).imp fun h e => h (List.cons.inj e).2
  ·intro a ha b hb e
   subst e
   obtain ⟨q, hq, rfl⟩ := List.mem_map.1 hb
   have h1 := (List.mem_filter.1 hq).2
   rw [prt_mem.1 ha] at h1
   cases h1
theorem same_len {α : Type} [DecidableEq α] {l m : List α} (hl : l.Nodup) (hm : m.Nodup) (h : ∀ x, x ∈ l ↔ x ∈ m) : l.length = m.length :=
 Nat.le_antisymm (nodup_le hl fun x hx => (h x).1 hx) (nodup_le hm fun x hx => (h x).2 hx)
theorem len_parts {α : Type} (f : α → Bool) : ∀ l : List α, l.length = (l.filter f).length + (l.filter fun x => !f x).length
 | [] => rfl
 | a :: l => by
  have h := len_parts f l
  cases hf : f a <;> simp [hf] <;> omega
def dl (w : List UInt8) : Nat := (prt w).length
def dlb (w : List UInt8) (c : UInt8) : Nat := match bhd w c with
 | some w' => dl w'
 | none => 0
theorem bhd_sub {c : UInt8} : ∀ {w w' : List UInt8}, bhd w c = some w' → w'.Sublist w
 | [], _, h => by cases h
 | x :: w, w', h => by
  unfold bhd at h
  split at h
  ·cases h; exact List.sublist_cons_self _ _
  ·exact (bhd_sub h).trans (List.sublist_cons_self _ _)
theorem dl_cons {c : UInt8} {w : List UInt8} : dl (c :: w) + dlb w c = 2 * dl w := by
 have h1 : dl (c :: w) = dl w + ((prt w).filter fun p => !leftW w (c :: p)).length := by
  unfold dl
  rw [prt, List.length_append, List.length_map]
 have h2 : dlb w c = ((prt w).filter fun p => leftW w (c :: p)).length := by
  unfold dlb
  cases hb : bhd w c with
  | none =>
   have : ((prt w).filter fun p => leftW w (c :: p)) = [] := by
    rw [List.filter_eq_nil_iff]
    intro p _
    rw [bhd_left, hb]
    simp
   rw [this]; rfl
  | some w' =>
   refine same_len prt_nodup (prt_nodup.filter _) fun p => ?_
   rw [List.mem_filter, prt_mem, prt_mem, bhd_left, hb]
   exact ⟨fun h => ⟨leftW_sub.2 ((leftW_sub.1 h).trans (bhd_sub hb)), h⟩, fun h => h.2⟩
 have h3 : dl w = ((prt w).filter fun p => leftW w (c :: p)).length + ((prt w).filter fun p => !leftW w (c :: p)).length := by
  unfold dl
  exact len_parts _ _
 omega
theorem dl_pos {w : List UInt8} : 1 ≤ dl w := List.length_pos_of_mem (prt_mem.2 left_nil)
theorem dl_pow : ∀ {w : List UInt8}, dl w ≤ 2 ^ w.length
 | [] => Nat.le_refl _
 | c :: w => by
  have h1 := dl_cons (c := c) (w := w)
  have h2 := dl_pow (w := w)
  rw [List.length_cons, Nat.pow_succ]
  omega
theorem dl_rev {w : List UInt8} : dl w.reverse = dl w := by
 have h : (prt w.reverse).length = ((prt w).map List.reverse).length := by
  refine same_len prt_nodup ?_ fun p => ?_
  ·unfold List.Nodup
   rw [List.pairwise_map]
   exact prt_nodup.imp fun h e => h (List.reverse_inj.1 e)
  ·rw [prt_mem, leftW_sub, List.mem_map]
   constructor
   ·exact fun h => ⟨p.reverse, prt_mem.2 (leftW_sub.2 (by rw [← List.reverse_sublist, List.reverse_reverse]; exact h)), List.reverse_reverse p⟩
   ·rintro ⟨q, hq, rfl⟩
    exact (leftW_sub.1 (prt_mem.1 hq)).reverse
 rw [List.length_map] at h
 exact h
end Go.Proofs.Ytmnmfmghmenkkaa

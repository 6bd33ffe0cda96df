/-
  The first of the shortest words that are missing: what the functions compute.
  Conditions: none; lemmas.
-/
import Derived.Test.YtmnmfmghmenkkaaLaw5a
import Derived.Test.YtmnmfmghmenkkaaLaw3c
set_option linter.unusedSimpArgs false
set_option linter.unusedVariables false
namespace Go.Proofs.Ytmnmfmghmenkkaa
open Go.Abs Go.Pur
set_option maxRecDepth 100000
theorem same_full {k : Nat} (hk : k ≤ 6) {m mm : List UInt8} (hn : m.Nodup) (hs : ∀ x ∈ m, x ∈ lets k) (he : ∀ x, x ∈ m ↔ x ∈ mm) : m.length = k ↔ fullM k mm = true := by
 rw [fullM_iff]
 have hle : m.length ≤ k := by have := nodup_le hn hs; rwa [lets_len] at this
 constructor
 ·intro h c hc
  rw [← he]
  refine Classical.byContradiction fun hcm => ?_
  have h1 : (c :: m).Nodup := List.nodup_cons.2 ⟨hcm, hn⟩
  have h2 := nodup_le h1 (m := lets k) (fun x hx => (List.mem_cons.1 hx).elim (fun e => by rw [e]; exact hc) (hs x))
  rw [lets_len] at h2
  simp only [List.length_cons] at h2
  omega
 ·intro h
  have h2 := nodup_le (lets_nodup hk) (m := m) (fun x hx => (he x).2 (h x hx))
  rw [lets_len] at h2
  omega
theorem archL_arN {k : Nat} (hk : k ≤ 6) : ∀ {w m mm : List UInt8} {i : Nat}, (∀ x ∈ w, x ∈ lets k) → m.Nodup → (∀ x ∈ m, x ∈ lets k) → (∀ x, x ∈ m ↔ x ∈ mm) → (archL k m w i).length = arN k mm w
 | [], _, _, _, _, _, _, _ => rfl
 | c :: w, m, mm, i, hw, hn, hs, he => by
  have hc := hw c List.mem_cons_self
  have hw' : ∀ x ∈ w, x ∈ lets k := fun x hx => hw x (List.mem_cons_of_mem _ hx)
  have hn' : (if c ∈ m then m else m ++ [c]).Nodup := by
   by_cases h : c ∈ m
   ·rw [if_pos h]; exact hn
   ·rw [if_neg h]
    rw [List.nodup_append]
    refine ⟨hn, by simp, fun a ha b hb e => h ?_⟩
    rw [List.mem_singleton.1 hb] at e
    rw [← e]; exact ha
  have he' : ∀ x, x ∈ (if c ∈ m then m else m ++ [c]) ↔ x ∈ c :: mm := fun x => by
   by_cases h : c ∈ m
   ·rw [if_pos h, List.mem_cons, ← he x]
    exact ⟨.inr, fun e => e.elim (fun e => by rw [e]; exact h) id⟩
   ·rw [if_neg h]
    simp only [List.mem_append, List.mem_singleton, List.mem_cons, ← he x, List.not_mem_nil, or_false]
    exact Or.comm
  have hs' : ∀ x ∈ (if c ∈ m then m else m ++ [c]), x ∈ lets k := fun x hx => by
   have := (he' x).1 hx
   rcases List.mem_cons.1 this with rfl | h
   ·exact hc
   ·exact hs x ((he x).2 h)
  have hf := same_full hk hn' hs' he'
  rw [archL, arN]
  by_cases h : (if c ∈ m then m else m ++ [c]).length = k
  ·rw [if_pos h, hf.1 h]
   simp only [List.length_cons]
   rw [archL_arN hk hw' List.nodup_nil (fun x hx => by cases hx) (fun x => Iff.rfl)]
   omega
  ·rw [if_neg h]
   have hf2 : fullM k (c :: mm) = false := by
    cases hq : fullM k (c :: mm) with
    | false => rfl
    | true => exact absurd (hf.2 hq) h
   rw [hf2]
   exact archL_arN hk hw' hn' hs' he'
theorem archI_len {k : Nat} (hk : k ≤ 6) {w : List UInt8} (hw : ∀ x ∈ w, x ∈ lets k) : (archI k w).length = arN k [] w := by
 unfold archI
 rw [List.length_map]
 exact archL_arN hk hw List.nodup_nil (fun x hx => by cases hx) (fun x => Iff.rfl)
theorem subF_at {w : List UInt8} {j : Nat} (h : j ≤ w.length) : subF w (j : Int) = some (w.drop j) := by
 show subF w (Int.ofNat j) = _
 simp only [subF]
 rw [Nat.ble_eq_true_of_le h]
end Go.Proofs.Ytmnmfmghmenkkaa

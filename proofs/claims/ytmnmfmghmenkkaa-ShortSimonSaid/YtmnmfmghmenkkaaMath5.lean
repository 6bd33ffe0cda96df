/-
  Arches, and the first of the shortest words that are missing: the mathematics.
  Conditions: none; definitions and lemmas.
-/
import Derived.Test.YtmnmfmghmenkkaaLeft27
import Derived.Test.YtmnmfmghmenkkaaRows0
set_option linter.unusedSimpArgs false
set_option linter.unusedVariables false
namespace Go.Proofs.Ytmnmfmghmenkkaa
theorem nodup_le {α : Type} [DecidableEq α] : ∀ {l m : List α}, l.Nodup → (∀ x ∈ l, x ∈ m) → l.length ≤ m.length
 | [], m, _, _ => Nat.zero_le _
 | x :: l, m, hn, hs => by
  have h1 := List.nodup_cons.1 hn
  have hx := hs x List.mem_cons_self
  have h2 : ∀ y ∈ l, y ∈ m.erase x := fun y hy => (List.mem_erase_of_ne (fun e => h1.1 (by rw [← e]; exact hy))).2 (hs y (List.mem_cons_of_mem _ hy))
  have h3 := nodup_le h1.2 h2
  rw [List.length_erase_of_mem hx] at h3
  have h4 : 0 < m.length := List.length_pos_of_mem hx
  simp only [List.length_cons]
  omega
theorem lets_len {k : Nat} : (lets k).length = k := by simp [lets]
theorem lets_mem {k : Nat} (hk : k ≤ 6) {c : UInt8} : c ∈ lets k ↔ 97 ≤ c.toNat ∧ c.toNat < 97 + k := by
 unfold lets
 rw [List.mem_map]
 constructor
 ·rintro ⟨j, hj, rfl⟩
  have := List.mem_range.1 hj
  have e : (UInt8.ofNat (97 + j)).toNat = 97 + j := by
   rw [UInt8.toNat_ofNat']; omega
  omega
 ·rintro ⟨h1, h2⟩
  refine ⟨c.toNat - 97, List.mem_range.2 (by omega), ?_⟩
  apply UInt8.toNat_inj.1
  rw [UInt8.toNat_ofNat']
  omega
theorem bhd_left {c : UInt8} {p : List UInt8} : ∀ {w : List UInt8}, leftW w (c :: p) = match bhd w c with
  | some w' => leftW w' p
  | none => false
 | [] => by rw [leftW, bhd]
 | x :: w => by
  rw [leftW, bhd]
  by_cases h : x = c
  ·rw [if_pos h, if_pos h]
  ·rw [if_neg h, if_neg h]; exact bhd_left
end Go.Proofs.Ytmnmfmghmenkkaa

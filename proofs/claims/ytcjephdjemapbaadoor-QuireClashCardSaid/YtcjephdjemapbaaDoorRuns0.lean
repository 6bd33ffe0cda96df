/-
  All folds of so many letters; a test of all of them, part by part.
  Conditions: none; definitions and lemmas.
-/
import Derived.Test.YtcjephdjemapbaaDoorWorks1
set_option linter.unusedSimpArgs false
set_option linter.unusedVariables false
namespace Go.Proofs.YtcjephdjemapbaaDoor
open Go.Abs Go.Pur
set_option maxRecDepth 100000
def fuel : Nat := 100
theorem fuel_eq : fuel = 100 := rfl
def strs : Nat → List (List UInt8)
 | 0 => [[]]
 | k + 1 => (strs k).flatMap fun r => [111 :: r, 117 :: r]
theorem mem_strs : ∀ {l : List UInt8}, (∀ c ∈ l, c = 111 ∨ c = 117) → l ∈ strs l.length
 | [], _ => by simp [strs]
 | c :: r, h => by
  refine List.mem_flatMap.2 ⟨r, mem_strs fun c hc => h c (List.mem_cons_of_mem _ hc), ?_⟩
  rcases h c (by simp) with rfl | rfl <;> simp
theorem of_check {l : List UInt8} (h : checkE l = 0) : l.length ≤ 6 ∧ l ∈ strs l.length := by
 unfold checkE lettersE at h
 split at h
 ·cases h
 ·rename_i h1
  split at h
  ·rename_i h2
   refine ⟨by omega, mem_strs fun c hc => ?_⟩
   have := List.all_eq_true.1 h2 c hc
   simpa using this
  ·cases h
theorem all_of {p : List UInt8 → Bool} (h0 : (strs 0).all p = true) (h1 : (strs 1).all p = true) (h2 : (strs 2).all p = true) (h3 : (strs 3).all p = true) (h4 : (strs 4).all p = true) (h5 : (((strs 5).drop 0).take 32).all p = true) (h6 : (((strs 6).drop 0).take 64).all p = true) {l : List UInt8} (h : checkE l = 0) : p l = true := by
 obtain ⟨hl, hm⟩ := of_check h
 have h6' : (strs 6).all p = true := by
  have : ((strs 6).drop 0).take 64 = strs 6 := by decide +kernel
  rwa [this] at h6
 have h5' : (strs 5).all p = true := by
  have : ((strs 5).drop 0).take 32 = strs 5 := by decide +kernel
  rwa [this] at h5
 have : l.length = 0 ∨ l.length = 1 ∨ l.length = 2 ∨ l.length = 3 ∨ l.length = 4 ∨ l.length = 5 ∨ l.length = 6 := by omega
 rcases this with e | e | e | e | e | e | e <;> rw [e] at hm
 ·exact List.all_eq_true.1 h0 _ hm
 ·exact List.all_eq_true.1 h1 _ hm
 ·exact List.all_eq_true.1 h2 _ hm
 ·exact List.all_eq_true.1 h3 _ hm
 ·exact List.all_eq_true.1 h4 _ hm
 ·exact List.all_eq_true.1 h5' _ hm
 ·exact List.all_eq_true.1 h6' _ hm
end Go.Proofs.YtcjephdjemapbaaDoor

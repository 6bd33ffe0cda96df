/-
  Arches: what the functions compute.
  The first of the shortest words that are missing: what the functions compute.
  Conditions: none; definitions and lemmas.
-/
import Derived.Test.YtmnmfmghmenkkaaMath5
import Derived.Test.YtmnmfmghmenkkaaLaw5
import Derived.Test.YtmnmfmghmenkkaaLaw3
set_option linter.unusedSimpArgs false
set_option linter.unusedVariables false
namespace Go.Proofs.Ytmnmfmghmenkkaa
open Go.Abs Go.Pur
set_option maxRecDepth 100000
theorem checkW_all {w : List UInt8} (h : checkW w = 0) : w.length ≤ 10 ∧ ∀ c ∈ w, 97 ≤ c.toNat ∧ c.toNat < 103 := by
 unfold checkW at h
 split at h
 ·cases h
 ·split at h
  ·rename_i h1 h2
   refine ⟨by omega, fun c hc => ?_⟩
   have := List.all_eq_true.1 h2 c hc
   unfold letW at this
   simp only [Bool.and_eq_true, decide_eq_true_eq] at this
   exact this
  ·cases h
theorem gA_at {l : List UInt8} {k : Nat} (h : k < l.length) (ha : l[k].toNat < 103) : gA l k = some l[k].toNat := by
 unfold gA
 rw [List.getElem?_eq_getElem h]
 simp only []
 rw [show Nat.blt l[k].toNat 128 = true from Nat.ble_eq_true_of_le (by omega)]
theorem ble_lt {a b : Nat} (h : a < b) : Nat.ble (a + 1) b = true := Nat.ble_eq_true_of_le h
theorem ble_ge {a b : Nat} (h : b ≤ a) : Nat.ble (a + 1) b = false := Bool.eq_false_iff.2 fun e => absurd (Nat.le_of_ble_eq_true e) (by omega)
theorem mSet_keys {K V : Type} [DecidableEq K] {c : Nat} {k : K} {v : V} : ∀ {l : Mp K V}, (mSet c k v l).map (·.1) = if k ∈ l.map (·.1) then l.map (·.1) else l.map (·.1) ++ [k]
 | [] => rfl
 | e :: l => by
  unfold mSet
  by_cases h : e.1 = k
  ·rw [decide_eq_true h]
   simp [h]
  ·rw [decide_eq_false h]
   simp only [List.map_cons, mSet_keys (l := l), List.mem_cons]
   by_cases h2 : k ∈ l.map (·.1)
   ·rw [if_pos h2, if_pos (.inr h2)]
   ·rw [if_neg h2, if_neg (fun e' => e'.elim (fun e' => h e'.symm) h2)]; rfl
end Go.Proofs.Ytmnmfmghmenkkaa
set_option linter.unusedSimpArgs false
set_option linter.unusedVariables false
namespace Go.Proofs.Ytmnmfmghmenkkaa
open Go.Abs Go.Pur
set_option maxRecDepth 100000
end Go.Proofs.Ytmnmfmghmenkkaa

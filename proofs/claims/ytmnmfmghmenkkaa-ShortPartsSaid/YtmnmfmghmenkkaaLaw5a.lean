/-
  Arches: what the functions compute.
  Conditions: none; lemmas.
-/
import Derived.Test.YtmnmfmghmenkkaaMath5
import Derived.Test.YtmnmfmghmenkkaaLaw5
import Derived.Test.YtmnmfmghmenkkaaLaw3e
set_option linter.unusedSimpArgs false
set_option linter.unusedVariables false
namespace Go.Proofs.Ytmnmfmghmenkkaa
open Go.Abs Go.Pur
set_option maxRecDepth 100000
theorem f62_law {a b c : Int} {F : Nat} : f62S F a b c = some (decide (b ≤ a) && decide (a ≤ c)) := by
 unfold f62S
 simp only [Option.bind_some]
 cases decide (b ≤ a) <;> rfl
theorem checkW_all {w : List UInt8} (h : checkW w = 0) : w.length ≤ 10 ∧ ∀ c ∈ w, 97 ≤ c.toNat ∧ c.toNat < 103 := by
 unfold checkW at h
 split at h
 ·cases h
 ·split at h
  ·rename_i h1 h2
   refine ⟨by omega, fun c hc => ?_⟩
   have := List.all_eq_true.1 h2 c hc
   unfold letW at this
   simp only [Bool.and_eq_true, decide_eq_true_eq] at this
   exact this
  ·cases h
theorem gA_at {l : List UInt8} {k : Nat} (h : k < l.length) (ha : l[k].toNat < 103) : gA l k = some l[k].toNat := by
 unfold gA
 rw [List.getElem?_eq_getElem h]
 simp only []
 rw [show Nat.blt l[k].toNat 128 = true from Nat.ble_eq_true_of_le (by omega)]
theorem ble_lt {a b : Nat} (h : a < b) : Nat.ble (a + 1) b = true := Nat.ble_eq_true_of_le h
theorem ble_ge {a b : Nat} (h : b ≤ a) : Nat.ble (a + 1) b = false := Bool.eq_false_iff.2 fun e => absurd (Nat.le_of_ble_eq_true e) (by omega)
theorem f26_any {l : List UInt8} {F : Nat} (hF : 12 ≤ F) : f26S F l = some (checkW l) := by
 unfold f26S checkW
 simp only [Option.bind_some]
 by_cases h : 10 < l.length
 ·rw [decide_eq_true (show (10 : Int) < (l.length : Int) by omega), if_pos h]
 ·rw [decide_eq_false (show ¬ (10 : Int) < (l.length : Int) by omega), if_neg h]
  have := f26_run (F := F) (p := l) (by omega) F 0 (by omega) (by omega)
  simpa using this
theorem sub_one {w : List UInt8} {i : Nat} (h : i < w.length) : sub2 w (i : Int) ((i + 1 : Nat) : Int) = some [w[i]] := by
 show sub2 w (Int.ofNat i) (Int.ofNat (i + 1)) = _
 simp only [sub2]
 rw [Nat.ble_eq_true_of_le (show i ≤ i + 1 by omega), Nat.ble_eq_true_of_le (show i + 1 ≤ w.length by omega)]
 simp only [Bool.and_self]
 congr 1
 rw [List.take_succ_eq_append_getElem h, List.drop_append_of_le_length (by simp; omega)]
 simp [List.drop_eq_nil_of_le]
end Go.Proofs.Ytmnmfmghmenkkaa

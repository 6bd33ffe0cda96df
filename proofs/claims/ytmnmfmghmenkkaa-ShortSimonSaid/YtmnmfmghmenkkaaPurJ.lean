/-
  The bytes of a text, as numbers.
  Conditions: none; definitions and lemmas.
-/
import Derived.Test.YtmnmfmghmenkkaaPurI
set_option linter.unusedSimpArgs false
set_option linter.unusedVariables false
set_option linter.unusedSectionVars false
namespace Go.Pur
open Go.Abs
def bytO (l : List UInt8) : Option (List Int) := match Nat.ble l.length 1000000 with
 | true => some (l.map fun b => (b.toNat : Int))
 | false => none
theorem bytO_ok {l : List UInt8} {x : List Int} (h : bytO l = some x) : l.length = x.length ∧ (l.map fun b => PV.v (.int .u8 b.toNat)) = x.map (kv .u8) ∧ Nat.ble (x.length + 1) unkCap = true := by
 unfold bytO at h
 split at h
 ·rename_i hb
  cases h
  refine ⟨by simp, by simp, ?_⟩
  refine Nat.ble_eq_true_of_le ?_
  have := Nat.le_of_ble_eq_true hb
  simp only [List.length_map]
  exact Nat.lt_of_le_of_lt this (show 1000000 < unkCap by decide)
 ·cases h
theorem bytO_at {l : List UInt8} (h : l.length ≤ 1000000) : bytO l = some (l.map fun b => (b.toNat : Int)) := by
 unfold bytO
 rw [Nat.ble_eq_true_of_le h]
end Go.Pur

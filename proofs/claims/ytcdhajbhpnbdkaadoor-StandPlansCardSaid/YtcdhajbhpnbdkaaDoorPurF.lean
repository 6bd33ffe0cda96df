/-
  Side facts of walks, for simp with omega as discharger.
  Conditions: none; lemmas.
-/
import Derived.Test.YtcdhajbhpnbdkaaDoorPurE
set_option linter.unusedSimpArgs false
set_option linter.unusedVariables false
namespace Go.Pur
open Go.Abs
abbrev uv (n : Nat) : PV := .v (.int .u8 n)
abbrev sv (s : ByteArray) : PV := .v (.string s)
abbrev bs (l : List UInt8) : ByteArray := ⟨l.toArray⟩
theorem bs_size {l : List UInt8} : (bs l).size = l.length := by simp [ByteArray.size]
theorem bs_get {l : List UInt8} {i : Nat} (h : i < (bs l).size) : (bs l)[i]'h = l[i]'(by rwa [bs_size] at h) := rfl
theorem wrapC {z : Int} (h : -9223372036854775808 ≤ z ∧ z < 9223372036854775808) : IntKind.i64.wrap z = z := wrap64 h.1 h.2
theorem wrapUC {z : Int} (h : 0 ≤ z ∧ z < 18446744073709551616) : IntKind.u64.wrap z = z := by
  simp [IntKind.wrap, IntKind.signed, IntKind.bits]
  omega
theorem intInC {n : Nat} {k : IntKind} {i : Int} (h : 0 ≤ i ∧ i < n) : intIn n (.int k i) = some i.toNat := by
  obtain ⟨j, rfl⟩ := Int.eq_ofNat_of_zero_le h.1
  exact intIn_nat (by omega)
theorem bleT {a b : Nat} (h : a ≤ b) : Nat.ble a b = true := ble_true h
theorem bleF {a b : Nat} (h : b < a) : Nat.ble a b = false := by rw [nble]; exact decide_eq_false (by omega)
theorem beqT {a b : Nat} (h : a = b) : Nat.beq a b = true := by rw [nbeq]; exact decide_eq_true h
theorem beqF {a b : Nat} (h : a ≠ b) : Nat.beq a b = false := by rw [nbeq]; exact decide_eq_false h
theorem decT {p : Prop} [Decidable p] (h : p) : decide p = true := decide_eq_true h
theorem toNat_succ {n : Nat} : ((n : Int) + 1).toNat = n + 1 := by omega
end Go.Pur

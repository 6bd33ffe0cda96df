/-
  The first of the shortest words that are missing: what the functions compute.
  Conditions: none; lemmas.
-/
import Derived.Test.YtmnmfmghmenkkaaLaw5a
import Derived.Test.YtmnmfmghmenkkaaLaw3c
set_option linter.unusedSimpArgs false
set_option linter.unusedVariables false
namespace Go.Proofs.Ytmnmfmghmenkkaa
open Go.Abs Go.Pur
set_option maxRecDepth 100000
def ints (w : List UInt8) : List Int := w.map fun b => (b.toNat : Int)
theorem bytesN_ints {w : List UInt8} : bytesN (ints w) = w := by
 unfold bytesN ints
 rw [List.map_map]
 conv => rhs; rw [← List.map_id w]
 refine List.map_congr_left fun c _ => ?_
 simp
theorem wrap8 {z : Int} (h1 : 0 ≤ z) (h2 : z < 256) : IntKind.u8.wrap z = z := by
 unfold IntKind.wrap
 simp [IntKind.bits, IntKind.signed]
 omega
theorem lets_at {k j : Nat} (h : j < k) : (lets k)[j]'(by rw [lets_len]; exact h) = UInt8.ofNat (97 + j) := by simp [lets]
theorem let_nat {j : Nat} (h : j < 6) : ((UInt8.ofNat (97 + j)).toNat : Int) = 97 + (j : Int) := by
 rw [UInt8.toNat_ofNat']
 omega
theorem subF_at {w : List UInt8} {j : Nat} (h : j ≤ w.length) : subF w (j : Int) = some (w.drop j) := by
 show subF w (Int.ofNat j) = _
 simp only [subF]
 rw [Nat.ble_eq_true_of_le h]
theorem ints_app {v : List UInt8} {c : UInt8} {x : Int} (h : (c.toNat : Int) = x) (hv : v.length ≤ 1000) : app1 (ints v) x = some (ints (v ++ [c])) := by
 unfold app1
 rw [Nat.ble_eq_true_of_le (show (ints v).length ≤ 1000000 by simp [ints]; omega)]
 simp [ints, h]
end Go.Proofs.Ytmnmfmghmenkkaa

/-
  Lists of truth values; the folds that numbers stand for.
  Conditions: none; lemmas.
-/
import Derived.Test.YtcjephdjemapbaaDoorWorks1
import Derived.Test.YtcjephdjemapbaaDoorRuns0
set_option linter.unusedSimpArgs false
set_option linter.unusedVariables false
namespace Go.Pur
end Go.Pur
namespace Go.Proofs.YtcjephdjemapbaaDoor
open Go.Abs Go.Pur
set_option maxRecDepth 100000
def foldedL (k y : Nat) : List UInt8 := (List.range k).map fun i => if y.testBit i then 117 else 111
theorem lettersB_eq {k y : Nat} : lettersB 111 117 k y = bs (foldedL k y) := rfl
def foldedO (m y : Int) : Option (List UInt8) := match m, y with
 | .ofNat m, .ofNat y => match Nat.blt m 256, Nat.blt y 256 with
  | true, true => some (foldedL (m % 7) y)
  | _, _ => none
 | _, _ => none
theorem f42_is {p0 p1 : Int} {hp : List (Option (List PV))} {r : List UInt8} (h : foldedO p0 p1 = some r) : E Tryd.prog Y0 42 [kv .u8 p0, kv .u8 p1] hp = some (.v (.string (bs r)), hp, none) := by
 cases p0 with
 | negSucc k => cases h
 | ofNat m =>
  cases p1 with
  | negSucc k => cases h
  | ofNat y =>
   unfold foldedO at h
   cases hm : Nat.blt m 256 with
   | false => simp [hm] at h
   | true =>
    cases hy : Nat.blt y 256 with
    | false => simp [hm, hy] at h
    | true =>
     simp [hm, hy] at h
     subst h
     rw [← lettersB_eq]
     exact folded_is (Nat.le_of_ble_eq_true hm) (Nat.le_of_ble_eq_true hy)
theorem foldedO_at {m y : Nat} (hm : m < 256) (hy : y < 256) : foldedO (m : Int) (y : Int) = some (foldedL (m % 7) y) := by
 show (match Nat.blt m 256, Nat.blt y 256 with | true, true => some (foldedL (m % 7) y) | _, _ => none) = _
 rw [blt_true hm, blt_true hy]
end Go.Proofs.YtcjephdjemapbaaDoor

/-
  Maps, as plain lists of keys, elements and stamps; parts of texts.
  Conditions: none; definitions and lemmas.
-/
import Derived.Test.YtcjephdjemapbaaDoorPurI
set_option linter.unusedSimpArgs false
set_option linter.unusedVariables false
set_option linter.unusedSectionVars false
namespace Go.Pur
open Go.Abs
abbrev Mp (K V : Type) := List (K × V × Nat)
section
variable {K V : Type} [DecidableEq K] {P : Program}
def mIdx (k : K) : Mp K V → Nat → Option (Nat × V)
 | [], _ => none
 | e :: l, i => match decide (e.1 = k) with
  | true => some (i, e.2.1)
  | false => mIdx k l (i + 1)
def mE (kf : K → Value) (vf : V → Value) (l : Mp K V) : List MapEntry := l.map fun e => ⟨kf e.1, vf e.2.1, e.2.2⟩
structure KeyT (P : Program) (kt : TypeId) (kf : K → Value) : Prop where
 chk : ∀ emp k, prun P (Instr.checkKey emp 10000 kt (kf k)) = some ()
 fnd : ∀ {W : Type} (vf : W → Value) (l : Mp K W) (k : K), prun P (Instr.findKey kt (kf k) (mE kf vf l)) = some ((mIdx k l 0).map fun p => (p.1, vf p.2))
 bits : ∀ k, Instr.sameBits 10000 (kf k) (kf k) = true
 plain : ∀ k, plainV (kf k) = true
end
theorem bs_extract {s : List UInt8} {a b : Nat} : (bs s).extract a b = bs ((s.take b).drop a) := by
 apply ByteArray.ext
 apply Array.ext'
 rw [ByteArray.data_extract]
 simp [List.drop_take]
def sub2 (s : List UInt8) (lo hi : Int) : Option (List UInt8) := match lo, hi with
 | .ofNat a, .ofNat b => match Nat.ble a b && Nat.ble b s.length with
  | true => some ((s.take b).drop a)
  | false => none
 | _, _ => none
def subF (s : List UInt8) (lo : Int) : Option (List UInt8) := match lo with
 | .ofNat a => match Nat.ble a s.length with
  | true => some (s.drop a)
  | false => none
 | _ => none
def subT (s : List UInt8) (hi : Int) : Option (List UInt8) := match hi with
 | .ofNat b => match Nat.ble b s.length with
  | true => some (s.take b)
  | false => none
 | _ => none
section
variable {P : Program}
theorem sub2_ok {t : TypeId} (ht : P.underlying t = some .string) {s r : List UInt8} {lo hi : Int} (h : sub2 s lo hi = some r) {k j : IntKind} : prunP P (Instr.slice t (.string (bs s)) (some (.int k lo)) (some (.int j hi)) none) = some (.string (bs r)) := by
 unfold sub2 at h
 split at h
 ·rename_i a b
  split at h
  ·rename_i hc
   cases h
   simp only [Bool.and_eq_true, Nat.ble_eq] at hc
   have := str_slice (P := P) ht (s := bs s) (k := k) (j := j) hc.1 (by rw [bs_size]; exact hc.2)
   rw [bs_extract] at this
   exact this
  ·cases h
 ·cases h
theorem subF_ok {t : TypeId} (ht : P.underlying t = some .string) {s r : List UInt8} {lo : Int} (h : subF s lo = some r) {k : IntKind} : prunP P (Instr.slice t (.string (bs s)) (some (.int k lo)) none none) = some (.string (bs r)) := by
 unfold subF at h
 split at h
 ·rename_i a
  split at h
  ·rename_i hc
   cases h
   simp only [Nat.ble_eq] at hc
   have := str_from (P := P) ht (s := bs s) (k := k) (a := a) (by rw [bs_size]; exact hc)
   rw [bs_extract, bs_size, List.take_length] at this
   exact this
  ·cases h
 ·cases h
theorem subT_ok {t : TypeId} (ht : P.underlying t = some .string) {s r : List UInt8} {hi : Int} (h : subT s hi = some r) {k : IntKind} : prunP P (Instr.slice t (.string (bs s)) none (some (.int k hi)) none) = some (.string (bs r)) := by
 unfold subT at h
 split at h
 ·rename_i b
  split at h
  ·rename_i hc
   cases h
   simp only [Nat.ble_eq] at hc
   have := str_to (P := P) ht (s := bs s) (k := k) (b := b) (by rw [bs_size]; exact hc)
   rw [bs_extract, List.drop_zero] at this
   exact this
  ·cases h
 ·cases h
end
end Go.Pur

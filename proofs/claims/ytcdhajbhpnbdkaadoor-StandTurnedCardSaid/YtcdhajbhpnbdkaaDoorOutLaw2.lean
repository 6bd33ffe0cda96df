/-
  members, Index, again, bound of the statements' own: the plain laws.
  Conditions: none; lemmas.
-/
import Derived.Test.YtcdhajbhpnbdkaaDoorOutLaw
set_option linter.unusedSimpArgs false
set_option linter.unusedVariables false
namespace Go.Proofs.YtcdhajbhpnbdkaaDoor
open Go.Abs Go.Pur
set_option maxRecDepth 100000
theorem and1_i64 {x : Nat} (h : x < 4096) : andI .i64 (x : Int) 1 = ((x % 2 : Nat) : Int) := by
 have e : (BitVec.ofInt 64 (x : Int) &&& BitVec.ofInt 64 (1 : Int)).toNat = x % 2 := by
  rw [BitVec.toNat_and, BitVec.toNat_ofInt, BitVec.toNat_ofInt]
  rw [show ((x : Int) % (2 ^ 64 : Nat)).toNat = x by omega, show ((1 : Int) % (2 ^ 64 : Nat)).toNat = 1 by decide]
  exact Nat.and_one_is_mod x
 show IntKind.i64.wrap ((BitVec.ofInt 64 (x : Int) &&& BitVec.ofInt 64 (1 : Int)).toNat : Int) = _
 rw [e]
 exact wrapN (by omega) (by omega)
theorem shr_i64 {s i : Nat} (hi : i ≤ 64) : shrO .i64 (s : Int) (i : Int) = some ((s / 2 ^ i : Nat) : Int) := by
 show some (shrI .i64 (s : Int) (i : Int)) = _
 unfold shrI
 have e : min (i : Int).toNat IntKind.i64.bits = i := by
  show min (i : Int).toNat 64 = i
  omega
 rw [e]
 have h := Int.ofNat_fdiv s (2 ^ i)
 rw [Int.natCast_pow] at h
 rw [h]; rfl
theorem bit1 {s i : Nat} (hs : s < 4096) : andI .i64 ((s / 2 ^ i : Nat) : Int) 1 = if s.testBit i then 1 else 0 := by
 rw [and1_i64 (Nat.lt_of_le_of_lt (Nat.div_le_self _ _) hs)]
 have h : s.testBit i = decide (s / 2 ^ i % 2 = 1) := Nat.testBit_eq_decide_div_mod_eq
 rw [h]
 have := Nat.mod_two_eq_zero_or_one (s / 2 ^ i)
 rcases this with e | e <;> rw [e] <;> rfl
section
variable {pages : List Int} {room : Int} {F : Nat}
theorem l51 {s : Nat} (hs : s < 4096) : ∀ (k i m : Nat) (v : List Int), i + k = 12 → k < m → v.length ≤ i →
  f51_L0 F (s : Int) (fun v10 => some (Ck.nz, v10)) m (v, (i : Int)) = some (Ck.nz, v ++ ((List.range' i k).filter fun j => s.testBit j).map Int.ofNat)
 | k, i, 0, v, _, h, _ => by omega
 | 0, i, m + 1, v, hk, _, _ => by
  rw [f51_L0]
  have h1 : decide ((i : Int) < 12) = false := decide_eq_false (by omega)
  simp [h1]
 | k + 1, i, m + 1, v, hk, hm, hv => by
  rw [f51_L0]
  have h1 : decide ((i : Int) < 12) = true := decide_eq_true (by omega)
  have w : IntKind.i64.wrap ((i : Int) + 1) = ((i + 1 : Nat) : Int) := wrap_nat (by omega)
  simp only [obind, h1]
  rw [bindS (shr_i64 (by omega)), bit1 hs, List.range'_succ]
  cases hb : s.testBit i with
  | true =>
   simp only [if_true, decide_true, app1_at (l := v) (v := (i : Int)) (by omega), obind, w]
   rw [l51 hs k (i + 1) m _ (by omega) (by omega) (by simp; omega), List.filter_cons_of_pos (by simp [hb])]
   simp
  | false =>
   simp only [Bool.false_eq_true, if_false, show decide ((0 : Int) = 1) = false from rfl, w]
   rw [l51 hs k (i + 1) m _ (by omega) (by omega) (by omega), List.filter_cons_of_neg (by simp [hb])]
theorem f51_eq {s : Nat} (hs : s < 4096) (hF : 12 < F) : f51S F (s : Int) = some (.nz, bitsL s) := by
 unfold f51S
 have := @l51 F s hs 12 0 F [] rfl (by omega) (by simp)
 rw [show ((0 : Nat) : Int) = 0 from rfl] at this
 rw [this]
 unfold bitsL bitsN
 rw [List.range_eq_range']
 rfl
end
end Go.Proofs.YtcdhajbhpnbdkaaDoor

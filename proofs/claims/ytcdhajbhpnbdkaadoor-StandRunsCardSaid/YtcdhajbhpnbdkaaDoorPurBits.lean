/-
  Unary operations, operations on bits, for the pure evaluator's walk.
  Conditions: none; lemmas.
-/
import Derived.Test.YtcdhajbhpnbdkaaDoorPurSym
set_option linter.unusedSimpArgs false
set_option linter.unusedVariables false
namespace Go.Pur
open Go.Abs
def andI (k : IntKind) (m n : Int) : Int := k.wrap (BitVec.ofInt k.bits m &&& BitVec.ofInt k.bits n).toNat
def orI (k : IntKind) (m n : Int) : Int := k.wrap (BitVec.ofInt k.bits m ||| BitVec.ofInt k.bits n).toNat
def andNotI (k : IntKind) (m n : Int) : Int := k.wrap (BitVec.ofInt k.bits m &&& ~~~ BitVec.ofInt k.bits n).toNat
def shrI (k : IntKind) (m n : Int) : Int := m.fdiv (2 ^ min n.toNat k.bits)
def shlI (k : IntKind) (m n : Int) : Int := k.wrap (m * 2 ^ min n.toNat k.bits)
def mulI (k : IntKind) (m n : Int) : Int := k.wrap (m * n)
section
variable {P : Program} {t : TypeId} {x y : Operand}
theorem prun_not {b : Bool} : prunP P (Op.unary .not (.bool b)) = some (.bool (!b)) := rfl
theorem prun_neg {n : Int} {k : IntKind} : prunP P (Op.unary .neg (.int k n)) = some (.int k (k.wrap (0 - n))) := rfl
theorem abinS_of {op : BinOp} {k j : IntKind} {m n : Int} {r : Value} (h0 : intFast op (.int k m) (.int j n) = none) (h1 : prun P (do eqGuard op t x y (.int k m) (.int j n); binOp op t (.int k m) (.int j n)) = some r) (h2 : plain r = true) : abin P op t x y (.int k m) (.int j n) = some r := by
  have h3 : abinS P op t x y (.int k m) (.int j n) = prunP P (do eqGuard op t x y (.int k m) (.int j n); binOp op t (.int k m) (.int j n)) := rfl
  unfold abin
  rw [h0]
  simp only []
  rw [h3]
  unfold prunP
  rw [h1]
  simp only []
  rw [h2]
theorem fast_none {op : BinOp} {k j : IntKind} {m n : Int} (h : ∀ k m n, intBin op k m n = none) : intFast op (.int k m) (.int j n) = none := by
  unfold intFast
  simp only [h]
  split <;> rfl
theorem abin_and {m n : Int} {k : IntKind} : abin P .and t x y (.int k m) (.int k n) = some (.int k (andI k m n)) := abinS_of (fast_none fun _ _ _ => rfl) (by simp [eqGuard, binOp]; rfl) rfl
theorem abin_or {m n : Int} {k : IntKind} : abin P .or t x y (.int k m) (.int k n) = some (.int k (orI k m n)) := abinS_of (fast_none fun _ _ _ => rfl) (by simp [eqGuard, binOp]; rfl) rfl
theorem abin_andNot {m n : Int} {k : IntKind} : abin P .andNot t x y (.int k m) (.int k n) = some (.int k (andNotI k m n)) := abinS_of (fast_none fun _ _ _ => rfl) (by simp [eqGuard, binOp]; rfl) rfl
theorem abin_mul {m n : Int} {k : IntKind} : abin P .mul t x y (.int k m) (.int k n) = some (.int k (mulI k m n)) := abinS_of (fast_none fun _ _ _ => rfl) (by simp [eqGuard, binOp]; rfl) rfl
theorem abin_shr {m n : Int} {k j : IntKind} (h : 0 ≤ n) : abin P .shr t x y (.int k m) (.int j n) = some (.int k (shrI k m n)) := by
  obtain ⟨n, rfl⟩ := Int.eq_ofNat_of_zero_le h
  exact abinS_of (fast_none fun _ _ _ => rfl) rfl rfl
theorem abin_shl {m n : Int} {k j : IntKind} (h : 0 ≤ n) : abin P .shl t x y (.int k m) (.int j n) = some (.int k (shlI k m n)) := by
  obtain ⟨n, rfl⟩ := Int.eq_ofNat_of_zero_le h
  exact abinS_of (fast_none fun _ _ _ => rfl) rfl rfl
theorem abin_add {m n : Int} {k : IntKind} : abin P .add t x y (.int k m) (.int k n) = some (.int k (k.wrap (m + n))) := by
  unfold abin intFast
  simp [intBin_add]
theorem abin_sub {m n : Int} {k : IntKind} : abin P .sub t x y (.int k m) (.int k n) = some (.int k (k.wrap (m - n))) := by
  unfold abin intFast
  simp [intBin_sub]
theorem abin_eql {m n : Int} {k : IntKind} : abin P .eql t x y (.int k m) (.int k n) = some (.bool (decide (m = n))) := by
  unfold abin intFast
  simp [intBin_eql]
theorem abin_neq {m n : Int} {k : IntKind} : abin P .neq t x y (.int k m) (.int k n) = some (.bool (!decide (m = n))) := by
  unfold abin intFast
  simp [intBin_neq]
theorem abin_lss {m n : Int} {k : IntKind} : abin P .lss t x y (.int k m) (.int k n) = some (.bool (decide (m < n))) := by
  unfold abin intFast
  simp [intBin_lss]
theorem abin_leq {m n : Int} {k : IntKind} : abin P .leq t x y (.int k m) (.int k n) = some (.bool (decide (m ≤ n))) := by
  unfold abin intFast
  simp [intBin_leq]
theorem abin_gtr {m n : Int} {k : IntKind} : abin P .gtr t x y (.int k m) (.int k n) = some (.bool (decide (n < m))) := by
  unfold abin intFast
  simp [intBin_gtr]
theorem abin_geq {m n : Int} {k : IntKind} : abin P .geq t x y (.int k m) (.int k n) = some (.bool (decide (n ≤ m))) := by
  unfold abin intFast
  simp [intBin_geq]
end
theorem noMaker_eq {ops : Array Oper} {q : Nat} : noMaker ops q = ops.toList.zipIdx.all fun (o, i) => decide (q ≤ i) || decide (kindOf o.op = 0) := by
  unfold noMaker
  congr 1
  funext x
  obtain ⟨o, i⟩ := x
  simp only [nble, nbeq]
theorem noTurn_eq {ops : Array Oper} {q : Nat} : noTurn ops q = ops.toList.zipIdx.all fun (o, i) => decide (q ≤ i) || !decide (kindOf o.op = 2) := by
  unfold noTurn
  congr 1
  funext x
  obtain ⟨o, i⟩ := x
  simp only [nble, nbeq]
section
variable {α : Type} {l r : List α} {k : Nat} {v : α}
theorem gAt : (l ++ r)[l.length + k]? = r[k]? := by rw [List.getElem?_append_right (by omega)]; congr 1; omega
theorem gAt0 : (l ++ r)[l.length]? = r[0]? := gAt (k := 0)
theorem sAt : (l ++ r).set (l.length + k) v = l ++ r.set k v := by rw [List.set_append, if_neg (by omega), Nat.add_sub_cancel_left]
theorem sAt0 : (l ++ r).set l.length v = l ++ r.set 0 v := sAt (k := 0)
end
end Go.Pur

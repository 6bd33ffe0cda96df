/-
  Arrays of two elements, compared.
  Conditions: none; lemmas.
-/
import Derived.Test.YtcdhajbhpnbdkaaDoorPurG
set_option linter.unusedSimpArgs false
set_option linter.unusedVariables false
namespace Go.Pur
open Go.Abs
section
variable {P : Program} {t e : TypeId} {d n : Nat} {xs ys : Array Value} {x0 x1 y0 y1 v w : Value} {p q : Bool} {a b : Int} {x y : Operand}
theorem int_equal {k : IntKind} (ht : P.underlying t = some (.int k)) : prun P (Op.equalIn (d + 1) t (.int k a) (.int k b)) = some (decide (a = b)) := by
  rw [Op.equalIn]
  simp [prun_bnd, prun_pure, prun_und ht]
  rfl
theorem arr_equal (ht : P.underlying t = some (.array 2 e)) (hn : prun P (sizeOf e) = some n) (h0 : prun P (part e xs 0) = some x0) (h1 : prun P (part e xs n) = some x1) (k0 : prun P (part e ys 0) = some y0) (k1 : prun P (part e ys n) = some y1)
    (h : prun P (Op.equalIn d e x0 y0) = some p) (k : prun P (Op.equalIn d e x1 y1) = some q) : prun P (Op.equalIn (d + 1) t (.agg xs) (.agg ys)) = some (p && q) := by
  rw [Op.equalIn]
  simp [prun_bnd, prun_pure, prun_und ht, hn]
  rw [show List.range' 0 2 = [0, 1] from rfl]
  simp only [List.forIn_cons, List.forIn_nil, prun_bnd, Nat.zero_mul, Nat.one_mul, h0, h1, k0, k1, h, k]
  cases p <;> cases q <;> simp [prun_bnd, prun_pure, h0, h1, k0, k1, h, k]
theorem abin_arr (hs : abinS P .eql t x y (.agg xs) (.agg ys) = prunP P (do eqGuard .eql t x y (.agg xs) (.agg ys); binOp .eql t (.agg xs) (.agg ys))) (h0 : prun P (eqGuard .eql t x y (.agg xs) (.agg ys)) = some ()) (h1 : prun P (Op.equalIn Op.maxDepth t (.agg xs) (.agg ys)) = some p) : abin P .eql t x y (.agg xs) (.agg ys) = some (.bool p) := by
  unfold abin
  rw [show intFast .eql (.agg xs) (.agg ys) = none from rfl]
  simp only []
  rw [hs]
  unfold prunP
  simp [prun_bnd, h0, binOp, prun_map, Op.equal, h1, plain]
theorem abin_narr (hs : abinS P .neq t x y (.agg xs) (.agg ys) = prunP P (do eqGuard .neq t x y (.agg xs) (.agg ys); binOp .neq t (.agg xs) (.agg ys))) (h0 : prun P (eqGuard .neq t x y (.agg xs) (.agg ys)) = some ()) (h1 : prun P (Op.equalIn Op.maxDepth t (.agg xs) (.agg ys)) = some p) : abin P .neq t x y (.agg xs) (.agg ys) = some (.bool (!p)) := by
  unfold abin
  rw [show intFast .neq (.agg xs) (.agg ys) = none from rfl]
  simp only []
  rw [hs]
  unfold prunP
  simp [prun_bnd, h0, binOp, prun_map, Op.equal, h1, plain]
end
end Go.Pur

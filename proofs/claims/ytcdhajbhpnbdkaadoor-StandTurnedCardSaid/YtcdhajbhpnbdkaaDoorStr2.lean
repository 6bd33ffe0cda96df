/-
  Structs of two numbers, compared; arrays of two numbers, compared.
  Conditions: none; lemmas.
-/
import Derived.Test.YtcdhajbhpnbdkaaDoorPurBase
import Derived.Test.YtcdhajbhpnbdkaaDoorPurG
set_option linter.unusedSimpArgs false
set_option linter.unusedVariables false
namespace Go.Proofs.YtcdhajbhpnbdkaaDoor
open Go.Abs Go.Pur
set_option maxRecDepth 100000
theorem prun_prog {P : Program} : prun P Go.program = some P := rfl
section
variable {P : Program} {t : TypeId} {d : Nat} {f0 f1 : Field} {xs ys : Array Value} {x0 x1 y0 y1 : Value} {p q : Bool}
theorem str_equal (ht : P.underlying t = some (.struct #[f0, f1])) (hs : P.stoodInHeld t = false) (n0 : f0.name ≠ "_") (n1 : f1.name ≠ "_") (h0 : prun P (part f0.type xs f0.offset) = some x0) (h1 : prun P (part f1.type xs f1.offset) = some x1)
  (k0 : prun P (part f0.type ys f0.offset) = some y0) (k1 : prun P (part f1.type ys f1.offset) = some y1)
  (h : prun P (Op.equalIn d f0.type x0 y0) = some p) (k : prun P (Op.equalIn d f1.type x1 y1) = some q) : prun P (Op.equalIn (d + 1) t (.agg xs) (.agg ys)) = some (p && q) := by
 rw [Op.equalIn]
 simp [prun_bnd, prun_pure, prun_und ht, prun_prog, hs]
 simp only [n0, n1, if_false, List.forIn_cons, List.forIn_nil, prun_bnd, h0, h1, k0, k1, h, k]
 cases p <;> cases q <;> simp [prun_bnd, prun_pure, h0, h1, k0, k1, h, k, n1]
end
theorem equal108 {k : Nat} {a b c d : Int} : prun Tryd.prog (Op.equalIn (k + 1 + 1) 108 (.agg #[.int .i64 a, .int .i64 b]) (.agg #[.int .i64 c, .int .i64 d])) = some (decide (a = c) && decide (b = d)) :=
 str_equal Tryd.underlying108 (by kernel_rfl) (by decide) (by decide) (x0 := .int .i64 a) (x1 := .int .i64 b) (y0 := .int .i64 c) (y1 := .int .i64 d) (by kernel_rfl) (by kernel_rfl) (by kernel_rfl) (by kernel_rfl) (int_equal Tryd.underlying3) (int_equal Tryd.underlying3)
theorem eql108 {a b c d : Int} {x y : Operand} : abin Tryd.prog .eql 108 x y (.agg #[.int .i64 a, .int .i64 b]) (.agg #[.int .i64 c, .int .i64 d]) = some (.bool (decide (a = c) && decide (b = d))) :=
 abin_arr rfl (by kernel_rfl) (by rw [show Op.maxDepth = 9998 + 1 + 1 from rfl]; exact equal108)
theorem neq108 {a b c d : Int} {x y : Operand} : abin Tryd.prog .neq 108 x y (.agg #[.int .i64 a, .int .i64 b]) (.agg #[.int .i64 c, .int .i64 d]) = some (.bool (!(decide (a = c) && decide (b = d)))) :=
 abin_narr rfl (by kernel_rfl) (by rw [show Op.maxDepth = 9998 + 1 + 1 from rfl]; exact equal108)
theorem equal75 {k : Nat} {a b c d : Int} : prun Tryd.prog (Op.equalIn (k + 1 + 1) 75 (.agg #[.int .i64 a, .int .i64 b]) (.agg #[.int .i64 c, .int .i64 d])) = some (decide (a = c) && decide (b = d)) :=
 arr_equal (n := 1) (e := 3) Tryd.underlying75 (by kernel_rfl) (x0 := .int .i64 a) (x1 := .int .i64 b) (y0 := .int .i64 c) (y1 := .int .i64 d) (by kernel_rfl) (by kernel_rfl) (by kernel_rfl) (by kernel_rfl) (int_equal Tryd.underlying3) (int_equal Tryd.underlying3)
theorem neq75 {a b c d : Int} {x y : Operand} : abin Tryd.prog .neq 75 x y (.agg #[.int .i64 a, .int .i64 b]) (.agg #[.int .i64 c, .int .i64 d]) = some (.bool (!(decide (a = c) && decide (b = d)))) :=
 abin_narr rfl (by kernel_rfl) (by rw [show Op.maxDepth = 9998 + 1 + 1 from rfl]; exact equal75)
theorem toPlain2 {x y : Value} : toPlain (.a [.v x, .v y]) = some (.agg #[x, y]) := rfl
end Go.Proofs.YtcdhajbhpnbdkaaDoor

/-
  Points, compared.
  Conditions: none; lemmas.
-/
import Derived.Test.YtcjephdjemapbaaDoorPurBase
import Derived.Test.YtcjephdjemapbaaDoorPurG
set_option linter.unusedSimpArgs false
set_option linter.unusedVariables false
namespace Go.Proofs.YtcjephdjemapbaaDoor
open Go.Abs Go.Pur
set_option maxRecDepth 100000
theorem equal47 {k : Nat} {a b c d : Int} : prun Tryd.prog (Op.equalIn (k + 1 + 1) 47 (.agg #[.int .i64 a, .int .i64 b]) (.agg #[.int .i64 c, .int .i64 d])) = some (decide (a = c) && decide (b = d)) :=
 arr_equal (n := 1) (e := 3) Tryd.underlying47 (by kernel_rfl) (x0 := .int .i64 a) (x1 := .int .i64 b) (y0 := .int .i64 c) (y1 := .int .i64 d) (by kernel_rfl) (by kernel_rfl) (by kernel_rfl) (by kernel_rfl) (int_equal Tryd.underlying3) (int_equal Tryd.underlying3)
theorem neq47 {a b c d : Int} {x y : Operand} : abin Tryd.prog .neq 47 x y (.agg #[.int .i64 a, .int .i64 b]) (.agg #[.int .i64 c, .int .i64 d]) = some (.bool (!(decide (a = c) && decide (b = d)))) :=
 abin_narr rfl (by kernel_rfl) (by rw [show Op.maxDepth = 9998 + 1 + 1 from rfl]; exact equal47)
theorem equal81 {k : Nat} {a b c d a' b' c' d' : Int} : prun Tryd.prog (Op.equalIn (k + 1 + 1 + 1) 81 (.agg #[.int .i64 a, .int .i64 b, .int .i64 c, .int .i64 d]) (.agg #[.int .i64 a', .int .i64 b', .int .i64 c', .int .i64 d'])) = some ((decide (a = a') && decide (b = b')) && (decide (c = c') && decide (d = d'))) :=
 arr_equal (n := 2) (e := 47) Tryd.underlying81 (by kernel_rfl) (x0 := .agg #[.int .i64 a, .int .i64 b]) (x1 := .agg #[.int .i64 c, .int .i64 d]) (y0 := .agg #[.int .i64 a', .int .i64 b']) (y1 := .agg #[.int .i64 c', .int .i64 d']) (by kernel_rfl) (by kernel_rfl) (by kernel_rfl) (by kernel_rfl) equal47 equal47
theorem eql81 {a b c d a' b' c' d' : Int} {x y : Operand} : abin Tryd.prog .eql 81 x y (.agg #[.int .i64 a, .int .i64 b, .int .i64 c, .int .i64 d]) (.agg #[.int .i64 a', .int .i64 b', .int .i64 c', .int .i64 d']) = some (.bool ((decide (a = a') && decide (b = b')) && (decide (c = c') && decide (d = d')))) :=
 abin_arr rfl (by kernel_rfl) (by rw [show Op.maxDepth = 9997 + 1 + 1 + 1 from rfl]; exact equal81)
end Go.Proofs.YtcjephdjemapbaaDoor

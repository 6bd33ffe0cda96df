/-
  Floors are compared.
  Conditions: none; a lemma.
-/
import Derived.Test.YtcdhajbhpnbdkaaDoorBits
set_option linter.unusedSimpArgs false
set_option linter.unusedVariables false
namespace Go.Proofs.YtcdhajbhpnbdkaaDoor
open Go.Abs Go.Pur
set_option maxRecDepth 100000
theorem neq93 {a b : Nat} (ha : a < 64) (hb : b < 64) : abin Tryd.prog .neq 93 (.tmp 70) (.tmp 71) (.agg #[.int .u64 a]) (.agg #[.int .u64 b]) = some (.bool (!decide (a = b))) := by
  have : (List.range 64).all (fun a => (List.range 64).all fun b => match abin Tryd.prog .neq 93 (.tmp 70) (.tmp 71) (.agg #[.int .u64 a]) (.agg #[.int .u64 b]) with
    | some (.bool r) => r == !decide (a = b)
    | _ => false) = true := by kernel_rfl
  rw [List.all_eq_true] at this
  have := this a (List.mem_range.2 ha)
  rw [List.all_eq_true] at this
  have := this b (List.mem_range.2 hb)
  split at this
  · rename_i r hr
    rw [hr]
    simp only [beq_iff_eq] at this
    rw [this]
  · cases this
theorem toPlain1 {x : Value} : toPlain (.a [.v x]) = some (.agg #[x]) := rfl
end Go.Proofs.YtcdhajbhpnbdkaaDoor

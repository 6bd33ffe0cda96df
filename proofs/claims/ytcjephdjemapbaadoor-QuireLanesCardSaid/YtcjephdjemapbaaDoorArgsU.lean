/-
  Numbers of 64 bits without sign, as the rows of this seat read them.
  Conditions: none; lemmas.
-/
import Derived.Test.YtcjephdjemapbaaDoorArgsList
set_option linter.unusedSimpArgs false
set_option linter.unusedVariables false
set_option linter.unusedSectionVars false
namespace Go.Proofs.YtcjephdjemapbaaDoor
open Go.Abs Go.Pur Go.ChangeShapes Go.WideShapes Go.ChangeAt Go.RowKit
set_option maxRecDepth 100000
section
variable {H : Type} {enc : TypeId × Value → H} {W : World} {r : Reach} {b0 : Nat}
theorem arg_u64 {v : Value} {d : DataW H} {ps : List MemPlace} (hv : Value.okWide Tryd.prog W r b0 51 v) (h : DataW.Trod enc Tryd.prog W 0 (fun _ => true) true 51 v d ps) : ∃ n : Nat, n < 18446744073709551616 ∧ ArgIn W v (.v (.int .u64 n)) := by
 obtain ⟨z, rfl, h1, h2⟩ := arg_int Tryd.underlying51 hv h
 have h3 : 0 ≤ z ∧ z ≤ 18446744073709551615 := by simpa [Lit.wf, IntKind.min, IntKind.max, IntKind.has, IntKind.signed, IntKind.bits] using h2
 obtain ⟨n, rfl⟩ := Int.eq_ofNat_of_zero_le h3.1
 exact ⟨n, by omega, h1⟩
end
end Go.Proofs.YtcjephdjemapbaaDoor

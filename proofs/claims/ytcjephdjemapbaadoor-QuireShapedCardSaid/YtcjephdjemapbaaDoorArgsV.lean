/-
  Lists of numbers of 8 bits, as the rows of this seat read them.
  Conditions: none; lemmas.
-/
import Derived.Test.YtcjephdjemapbaaDoorArgsU
set_option linter.unusedSimpArgs false
set_option linter.unusedVariables false
set_option linter.unusedSectionVars false
namespace Go.Proofs.YtcjephdjemapbaaDoor
open Go.Abs Go.Pur Go.ChangeShapes Go.WideShapes Go.ChangeAt Go.RowKit
set_option maxRecDepth 100000
section
variable {H : Type} {enc : TypeId × Value → H} {W : World} {r : Reach} {b0 : Nat}
theorem arg_i8s {v : Value} {d : DataW H} {ps : List MemPlace} (hv : Value.okWide Tryd.prog W r b0 58 v) (h : DataW.Trod enc Tryd.prog W 0 (fun _ => true) true 58 v d ps) : ∃ l : List Int, (∀ x ∈ l, -128 ≤ x ∧ x ≤ 127) ∧ ArgIn W v (.l .fz .any l.length (l.map fun z => .v (.int .i8 z))) := by
  obtain ⟨l, h1, h2⟩ := arg_ints Tryd.underlying58 Tryd.underlying60 (by kernel_rfl) hv h
  refine ⟨l, fun x hx => ?_, h1⟩
  have := h2 x hx
  simpa [Lit.wf, IntKind.min, IntKind.max, IntKind.has, IntKind.signed, IntKind.bits] using this
end
end Go.Proofs.YtcjephdjemapbaaDoor

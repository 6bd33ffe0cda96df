/-
  Lists of numbers, as the rows of this seat read them.
  Conditions: none; lemmas.
-/
import Derived.Test.YtcjephdjemapbaaDoorArgs
set_option linter.unusedSimpArgs false
set_option linter.unusedVariables false
set_option linter.unusedSectionVars false
namespace Go.Proofs.YtcjephdjemapbaaDoor
open Go.Abs Go.Pur Go.ChangeShapes Go.WideShapes Go.ChangeAt Go.RowKit
set_option maxRecDepth 100000
section
variable {H : Type} {enc : TypeId × Value → H} {W : World} {r : Reach} {b0 : Nat}
theorem arg_list {v : Value} {d : DataW H} {ps : List MemPlace} (hv : Value.okWide Tryd.prog W r b0 23 v) (h : DataW.Trod enc Tryd.prog W 0 (fun _ => true) true 23 v d ps) : ∃ l : List Int, ArgIn W v (.l .fz .any l.length (l.map fun z => .v (.int .i64 z))) := by
  obtain ⟨l, h1, _⟩ := arg_ints Tryd.underlying23 Tryd.underlying3 (by kernel_rfl) hv h
  exact ⟨l, h1⟩
theorem arg_int3 {v : Value} {d : DataW H} {ps : List MemPlace} (hv : Value.okWide Tryd.prog W r b0 3 v) (h : DataW.Trod enc Tryd.prog W 0 (fun _ => true) true 3 v d ps) : ∃ z : Int, ArgIn W v (.v (.int .i64 z)) := by
  obtain ⟨z, _, h1, _⟩ := arg_int Tryd.underlying3 hv h
  exact ⟨z, h1⟩
end
end Go.Proofs.YtcjephdjemapbaaDoor

/-
  Arguments, as the rows of this seat read them.
  Conditions: none; definitions and lemmas.
-/
import Derived.Test.YtmnmfmghmenkkaaPurBase
import Derived.Test.YtmnmfmghmenkkaaBase
import Derived.Test.YtmnmfmghmenkkaaExt0
import Derived.Test.YtmnmfmghmenkkaaPurC
set_option linter.unusedSimpArgs false
set_option linter.unusedVariables false
set_option linter.unusedSectionVars false
namespace Go.Proofs.Ytmnmfmghmenkkaa
open Go.Abs Go.Pur Go.ChangeShapes Go.WideShapes Go.ChangeAt Go.RowKit
set_option maxRecDepth 100000
theorem ok : progOK Try.prog = true := by kernel_rfl
theorem laidOut : laidOutB Try.prog = true := by kernel_rfl
theorem grOf (l : List Blk) : GR Try.prog Y0 (C0 Try.prog (tabs ++ l).length) (heapOf (tabs ++ l)) := fun g cs hg => by
 simp [Y0] at hg
theorem law_true {W : World} (hS : W.ShapedOpen Try.prog) {f : FuncId} {us : List PV} {vs : List Value} {hp' : List (Option (List PV))} {wl : Option Nat} (hA : ArgsIn W vs us) (hE : E Try.prog Y0 f us [] = some (.v (.bool true), hp', wl)) :
  Calls Try.prog f vs.toArray W fun e W' => e = .returned (.bool true) ∧ Below W.heap.size W W' :=
 pure_true mix ok ext_ok (G := tabs) (GL := tabLocs) (by simp [tabs]) rfl tabs_wr (fun l ls h1 h2 => start hS l ls h1 h2) grOf hA hE
section
variable {H : Type} {enc : TypeId × Value → H} {W : World} {r : Reach} {b0 : Nat}
end
end Go.Proofs.Ytmnmfmghmenkkaa

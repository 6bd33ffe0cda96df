/-
  A job, and lists of numbers, as the rows of this seat read them; the tables that the rows lay.
  Numbers, as the rows of this seat read them.
  Conditions: none; definitions and lemmas.
-/
import Derived.Test.YtcdhajbhpnbdkaaDoorPurBase
import Derived.Test.YtcdhajbhpnbdkaaDoorPurC
set_option linter.unusedSimpArgs false
set_option linter.unusedVariables false
set_option linter.unusedSectionVars false
namespace Go.Proofs.YtcdhajbhpnbdkaaDoor
open Go.Abs Go.Pur Go.ChangeShapes Go.WideShapes Go.ChangeAt Go.RowKit
set_option maxRecDepth 100000
theorem ok : progOK Tryd.prog = true := by kernel_rfl
theorem laidOut : laidOutB Tryd.prog = true := by kernel_rfl
theorem grOf (l : List Blk) : GR Tryd.prog Y0 (C0 Tryd.prog (tabs ++ l).length) (heapOf (tabs ++ l)) := by
 have key : ∀ (zs : List Int) (g e : Nat), tabs[g]? = some (tabBlk .u8 zs e) → g < 2 → g < Tryd.prog.globals.size ∧ (C0 Tryd.prog (tabs ++ l).length).fz g ∧ ∃ B, (heapOf (tabs ++ l)).get g = some B ∧ (zs.map fun n => PV.v (.int .u8 n)).length ≤ B.cells.length ∧ ∀ i, i < (zs.map fun n => PV.v (.int .u8 n)).length → VR (C0 Tryd.prog (tabs ++ l).length) (heapOf (tabs ++ l)) none ((zs.map fun n => PV.v (.int .u8 n)).getD i .dead) (B.cells.getD i undef) := by
  intro zs g e hg h2
  refine ⟨by rw [nglob]; exact h2, by show g < _; simp [tabs]; omega, tabBlk .u8 zs e, by rw [heapOf_get, List.getElem?_append_left (by simpa [tabs] using h2), hg], by simp [tabBlk], fun i hi => ?_⟩
  have hi' : i < zs.length := by simpa using hi
  simp [tabBlk, List.getD_eq_getElem?_getD, hi']
  exact .v _ _ rfl (fun _ _ e => by cases e)
 intro g cs hg
 match g, hg with
 | 0, hg => cases hg; exact key tab32 0 147 rfl (by decide)
 | 1, hg => cases hg; exact key tab64 1 148 rfl (by decide)
theorem law_true {W : World} (h : laidMetH Tryd.prog laidList W) {f : FuncId} {us : List PV} {vs : List Value} {hp' : List (Option (List PV))} {wl : Option Nat} (hA : ArgsIn W vs us) (hE : E Tryd.prog Y0 f us [] = some (.v (.bool true), hp', wl)) :
  Calls Tryd.prog f vs.toArray W fun e W' => e = .returned (.bool true) ∧ Below W.heap.size W W' :=
 pure_true mix ok (G := tabs) (GL := tabLocs) (by simp [tabs]) rfl tabs_wr (fun l ls h1 h2 => start h l ls h1 h2) grOf hA hE
section
variable {H : Type} {enc : TypeId × Value → H} {W : World} {r : Reach} {b0 : Nat}
end
end Go.Proofs.YtcdhajbhpnbdkaaDoor
set_option linter.unusedSimpArgs false
set_option linter.unusedVariables false
set_option linter.unusedSectionVars false
namespace Go.Proofs.YtcdhajbhpnbdkaaDoor
open Go.Abs Go.Pur Go.ChangeShapes Go.WideShapes Go.ChangeAt Go.RowKit
set_option maxRecDepth 100000
section
variable {H : Type} {enc : TypeId × Value → H} {W : World} {r : Reach} {b0 : Nat}
end
end Go.Proofs.YtcdhajbhpnbdkaaDoor

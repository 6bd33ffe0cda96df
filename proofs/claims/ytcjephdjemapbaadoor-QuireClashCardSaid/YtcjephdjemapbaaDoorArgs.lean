/-
  Strings and numbers, as the rows of this seat read them; the tables that the rows lay.
  Conditions: the rows' own (the tables of math/bits are as the text lays them).
-/
import Derived.Test.YtcjephdjemapbaaDoorPurBase
import Derived.Test.YtcjephdjemapbaaDoorBase
import Derived.Test.YtcjephdjemapbaaDoorExch
import Derived.Test.YtcjephdjemapbaaDoorPurC
set_option linter.unusedSimpArgs false
set_option linter.unusedVariables false
set_option linter.unusedSectionVars false
namespace Go.Proofs.YtcjephdjemapbaaDoor
open Go.Abs Go.Pur Go.ChangeShapes Go.WideShapes Go.ChangeAt Go.RowKit
set_option maxRecDepth 100000
theorem ok : progOK Tryd.prog = true := by kernel_rfl
theorem laidOut : laidOutB Tryd.prog = true := by kernel_rfl
theorem grOf (l : List Blk) : GR Tryd.prog Y0 (C0 Tryd.prog (tabs ++ l).length) (heapOf (tabs ++ l)) := by
 have key : ∀ (zs : List Int) (g e : Nat), tabs[g]? = some (tabBlk .u8 zs e) → g < 2 → g < Tryd.prog.globals.size ∧ (C0 Tryd.prog (tabs ++ l).length).fz g ∧ ∃ B, (heapOf (tabs ++ l)).get g = some B ∧ (zs.map fun n => PV.v (.int .u8 n)).length ≤ B.cells.length ∧ ∀ i, i < (zs.map fun n => PV.v (.int .u8 n)).length → VR (C0 Tryd.prog (tabs ++ l).length) (heapOf (tabs ++ l)) none ((zs.map fun n => PV.v (.int .u8 n)).getD i .dead) (B.cells.getD i undef) := by
  intro zs g e hg h2
  refine ⟨by rw [nglob]; omega, by show g < _; simp [tabs]; omega, tabBlk .u8 zs e, by rw [heapOf_get, List.getElem?_append_left (by simp [tabs]; omega), hg], by simp [tabBlk], fun i hi => ?_⟩
  have hi' : i < zs.length := by simpa using hi
  simp [tabBlk, List.getD_eq_getElem?_getD, hi']
  exact .v _ _ rfl (fun _ _ e => by cases e)
 intro g cs hg
 match g, hg with
 | 0, hg => cases hg; exact key tab32 0 124 rfl (by decide)
 | 1, hg => cases hg; exact key tab64 1 125 rfl (by decide)
theorem law_true {W : World} (h : laidMetH Tryd.prog laidList W) (hS : W.ShapedOpen Tryd.prog) {f : FuncId} {us : List PV} {vs : List Value} {hp' : List (Option (List PV))} {wl : Option Nat} (hA : ArgsIn W vs us) (hE : E Tryd.prog Y0 f us [] = some (.v (.bool true), hp', wl)) :
  Calls Tryd.prog f vs.toArray W fun e W' => e = .returned (.bool true) ∧ Below W.heap.size W W' :=
 pure_true mix ok ext_ok (G := tabs) (GL := tabLocs) (by simp [tabs]) rfl tabs_wr (fun l ls h1 h2 => start h hS l ls h1 h2) grOf hA hE
section
variable {H : Type} {enc : TypeId × Value → H} {W : World} {r : Reach} {b0 : Nat}
theorem arg_u8 {v : Value} {d : DataW H} {ps : List MemPlace} (hv : Value.okWide Tryd.prog W r b0 5 v) (h : DataW.Trod enc Tryd.prog W 0 (fun _ => true) true 5 v d ps) : ∃ n : Nat, n < 256 ∧ ArgIn W v (.v (.int .u8 n)) := by
 obtain ⟨z, rfl, h1, h2⟩ := arg_int Tryd.underlying5 hv h
 have h3 : 0 ≤ z ∧ z ≤ 255 := by simpa [Lit.wf, IntKind.min, IntKind.max, IntKind.has, IntKind.signed, IntKind.bits] using h2
 obtain ⟨n, rfl⟩ := Int.eq_ofNat_of_zero_le h3.1
 exact ⟨n, by omega, h1⟩
end
end Go.Proofs.YtcjephdjemapbaaDoor

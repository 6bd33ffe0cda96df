/-
  A job, and lists of numbers, as the rows of this seat read them; the tables that the rows lay.
  Numbers, as the rows of this seat read them.
  Conditions: none; definitions and lemmas.
-/
import Derived.Test.YtcdhajbhpnbdkaaDoorPurBase
import Derived.Test.YtcdhajbhpnbdkaaDoorPurC
set_option linter.unusedSimpArgs false
set_option linter.unusedVariables false
set_option linter.unusedSectionVars false
namespace Go.Proofs.YtcdhajbhpnbdkaaDoor
open Go.Abs Go.Pur Go.ChangeShapes Go.WideShapes Go.ChangeAt Go.RowKit
set_option maxRecDepth 100000
theorem ok : progOK Tryd.prog = true := by kernel_rfl
theorem laidOut : laidOutB Tryd.prog = true := by kernel_rfl
theorem grOf (l : List Blk) : GR Tryd.prog Y0 (C0 Tryd.prog (tabs ++ l).length) (heapOf (tabs ++ l)) := by
 have key : ∀ (zs : List Int) (g e : Nat), tabs[g]? = some (tabBlk .u8 zs e) → g < 2 → g < Tryd.prog.globals.size ∧ (C0 Tryd.prog (tabs ++ l).length).fz g ∧ ∃ B, (heapOf (tabs ++ l)).get g = some B ∧ (zs.map fun n => PV.v (.int .u8 n)).length ≤ B.cells.length ∧ ∀ i, i < (zs.map fun n => PV.v (.int .u8 n)).length → VR (C0 Tryd.prog (tabs ++ l).length) (heapOf (tabs ++ l)) none ((zs.map fun n => PV.v (.int .u8 n)).getD i .dead) (B.cells.getD i undef) := by
  intro zs g e hg h2
  refine ⟨by rw [nglob]; exact h2, by show g < _; simp [tabs]; omega, tabBlk .u8 zs e, by rw [heapOf_get, List.getElem?_append_left (by simpa [tabs] using h2), hg], by simp [tabBlk], fun i hi => ?_⟩
  have hi' : i < zs.length := by simpa using hi
  simp [tabBlk, List.getD_eq_getElem?_getD, hi']
  exact .v _ _ rfl (fun _ _ e => by cases e)
 intro g cs hg
 match g, hg with
 | 0, hg => cases hg; exact key tab32 0 147 rfl (by decide)
 | 1, hg => cases hg; exact key tab64 1 148 rfl (by decide)
theorem law_true {W : World} (h : laidMetH Tryd.prog laidList W) {f : FuncId} {us : List PV} {vs : List Value} {hp' : List (Option (List PV))} {wl : Option Nat} (hA : ArgsIn W vs us) (hE : E Tryd.prog Y0 f us [] = some (.v (.bool true), hp', wl)) :
  Calls Tryd.prog f vs.toArray W fun e W' => e = .returned (.bool true) ∧ Below W.heap.size W W' :=
 pure_true mix ok (G := tabs) (GL := tabLocs) (by simp [tabs]) rfl tabs_wr (fun l ls h1 h2 => start h l ls h1 h2) grOf hA hE
theorem cells3 : Tryd.prog.cellsOf 3 = 1 := by kernel_rfl
theorem cells22 : Tryd.prog.cellsOf 22 = 1 := by kernel_rfl
theorem cells24 : Tryd.prog.cellsOf 24 = 2 := by kernel_rfl
section
variable {H : Type} {enc : TypeId × Value → H} {W : World} {r : Reach} {b0 : Nat}
theorem arg_job {v : Value} {d : DataW H} {ps : List MemPlace} (hv : Value.okWide Tryd.prog W r b0 24 v) (h : DataW.Trod enc Tryd.prog W 0 (fun _ => true) true 24 v d ps) :
  ∃ (room : Int) (pages : List Int), ArgIn W v (.a [iv room, .l .fz .any pages.length (pages.map iv)]) := by
 obtain ⟨cs, rfl, hs⟩ := okWide_struct Tryd.underlying24 hv
 obtain ⟨fuel, h⟩ := h
 obtain ⟨y0, y1, n, _, hl, h0, h1⟩ := trod_struct2 Tryd.underlying24 h
 simp only [Value.cells] at hl h0 h1
 rw [cells24] at hl
 obtain ⟨z, e0, _, _⟩ := DataW.trod_int Tryd.underlying3 h0
 obtain ⟨u, zs, e1, e2, _⟩ := cells_ints Tryd.underlying22 Tryd.underlying3 cells3 h1
 match cs, hl with
 | ⟨[c0, c1]⟩, _ =>
  rw [cells3] at e0
  rw [cells22] at e1
  simp at e0 e1
  subst e0; subst e1
  exact ⟨z, zs, .agg _ _ (.cons _ _ _ _ (.plain _ rfl (fun _ _ e => by cases e)) (.cons _ _ _ _ e2 .nil))⟩
theorem arg_list {v : Value} {d : DataW H} {ps : List MemPlace} (hv : Value.okWide Tryd.prog W r b0 22 v) (h : DataW.Trod enc Tryd.prog W 0 (fun _ => true) true 22 v d ps) :
  ∃ l : List Int, ArgIn W v (.l .fz .any l.length (l.map iv)) :=
 let ⟨zs, h, _⟩ := arg_ints Tryd.underlying22 Tryd.underlying3 cells3 hv h
 ⟨zs, h⟩
end
end Go.Proofs.YtcdhajbhpnbdkaaDoor
set_option linter.unusedSimpArgs false
set_option linter.unusedVariables false
set_option linter.unusedSectionVars false
namespace Go.Proofs.YtcdhajbhpnbdkaaDoor
open Go.Abs Go.Pur Go.ChangeShapes Go.WideShapes Go.ChangeAt Go.RowKit
set_option maxRecDepth 100000
section
variable {H : Type} {enc : TypeId × Value → H} {W : World} {r : Reach} {b0 : Nat}
theorem arg_int3 {v : Value} {d : DataW H} {ps : List MemPlace} (hv : Value.okWide Tryd.prog W r b0 3 v) (h : DataW.Trod enc Tryd.prog W 0 (fun _ => true) true 3 v d ps) : ∃ z : Int, ArgIn W v (.v (.int .i64 z)) := by
 obtain ⟨z, _, h1, _⟩ := arg_int Tryd.underlying3 hv h
 exact ⟨z, h1⟩
end
end Go.Proofs.YtcdhajbhpnbdkaaDoor

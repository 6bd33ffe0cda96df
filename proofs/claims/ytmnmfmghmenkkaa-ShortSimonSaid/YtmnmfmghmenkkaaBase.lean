/-
  The start of every call of this seat: no table; the one variable is a bare block.
  Conditions: none; definitions and lemmas.
-/
import Derived.Test.YtmnmfmghmenkkaaAbsB
import Derived.Test.YtmnmfmghmenkkaaRows
import Derived.Deep.DeepHandedRow
set_option linter.unusedSimpArgs false
set_option linter.unusedVariables false
set_option linter.unusedSectionVars false
namespace Go.Proofs.Ytmnmfmghmenkkaa
open Go.Abs
def tabs : List Blk := [bareBlk 3]
def tabLocs : List Abs.Loc := [⟨0, 0, 0⟩]
theorem own : ownKnob Try.prog.godebug = none := by kernel_rfl
theorem mix : Try.prog.follows .mixedOrders = true := by kernel_rfl
theorem nglob : Try.prog.globals.size = 1 := by kernel_rfl
noncomputable def zt (g : Nat) (h : (((begin Try.prog (fun _ _ => 0) default).world.heap[g]?).bind Obj.row?).isSome = true) : {zt : Array Value × TypeId // ((begin Try.prog (fun _ _ => 0) default).world.heap[g]?).bind Obj.row? = some (zt.1, zt.2)} := ⟨(Option.get _ h), (Option.some_get h).symm⟩
noncomputable def z0 := zt 0 (by kernel_rfl)
theorem start {W : World} (hS : W.ShapedOpen Try.prog) (l : List Blk) (ls : List Abs.Loc) (hlen : l.length = ls.length) (hl : ∀ (i : Nat) (B : Blk) (L : Abs.Loc), l[i]? = some B → ls[i]? = some L → Lies W B L) :
  Rel Try.prog (mapOf (tabLocs ++ ls)) (heapOf (tabs ++ l)) W := by
 refine rel_init _ _ (by simp [tabs, tabLocs, hlen]) (fun i B L hB hL => ?_) (fun g hg => ?_)
 ·match i, hB, hL with
  | 0, hB, hL => cases hB; cases hL; exact lies_bare 3 hS (by rw [nglob]; decide) z0.2
  | i + 1, hB, hL => exact hl i B L (by simpa [tabs] using hB) (by simpa [tabLocs] using hL)
 ·rw [nglob] at hg
  match g, hg with
  | 0, _ => rfl
theorem tabs_wr : ∀ B ∈ tabs, B.wr = false := by
 intro B hB
 simp only [tabs, List.mem_cons, List.not_mem_nil, or_false] at hB
 rcases hB with rfl; rfl
noncomputable def laidWorld (os : Os) : World := World.holding Try.prog os ⟨#[], #[], []⟩
end Go.Proofs.Ytmnmfmghmenkkaa

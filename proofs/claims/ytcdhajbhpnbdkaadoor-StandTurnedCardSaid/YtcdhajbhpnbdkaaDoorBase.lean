/-
  The start of every call of this seat: the two tables of math/bits that the rows list, as blocks 0 and 1 of the abstract heap.
  Conditions: the rows' own (the tables are as the text lays them).
-/
import Derived.Test.YtcdhajbhpnbdkaaDoorAbsB
import Derived.Test.YtcdhajbhpnbdkaaDoorCards
import Derived.Test.YtcdhajbhpnbdkaaDoorTie
import Derived.Deep.DeepHandedRow
set_option linter.unusedSimpArgs false
set_option linter.unusedVariables false
set_option linter.unusedSectionVars false
namespace Go.Proofs.YtcdhajbhpnbdkaaDoor
open Go.Abs
def tab32 : List Int := [0, 1, 28, 2, 29, 14, 24, 3, 30, 22, 20, 15, 25, 17, 4, 8, 31, 27, 13, 23, 21, 19, 16, 7, 26, 12, 18, 6, 11, 5, 10, 9]
def tab64 : List Int := [0, 1, 56, 2, 57, 49, 28, 3, 61, 58, 42, 50, 38, 29, 17, 4, 62, 47, 59, 36, 45, 43, 51, 22, 53, 39, 33, 30, 24, 18, 12, 5, 63, 55, 48, 27, 60, 41, 37, 16, 46, 35, 44, 21, 52, 32, 23, 11, 54, 26, 40, 15, 34, 20, 31, 10, 25, 14, 19, 9, 13, 8, 7, 6]
def tabs : List Blk := [tabBlk .u8 tab32 147, tabBlk .u8 tab64 148]
def tabLocs : List Abs.Loc := [⟨0, 0, 0⟩, ⟨1, 0, 0⟩]
theorem own : ownKnob Tryd.prog.godebug = none := by kernel_rfl
theorem mix : Tryd.prog.follows .mixedOrders = true := by kernel_rfl
theorem nglob : Tryd.prog.globals.size = 2 := by kernel_rfl
theorem g32 : Tryd.prog.globalNamed "math/bits.deBruijn32tab" = some 0 := by kernel_rfl
theorem g64 : Tryd.prog.globalNamed "math/bits.deBruijn64tab" = some 1 := by kernel_rfl
theorem t32 : (Tryd.prog.globals[0]?).map (·.type) = some 147 := by kernel_rfl
theorem t64 : (Tryd.prog.globals[1]?).map (·.type) = some 148 := by kernel_rfl
theorem cells147 : Tryd.prog.cellsOf 147 = 32 := by kernel_rfl
theorem cells148 : Tryd.prog.cellsOf 148 = 64 := by kernel_rfl
theorem cells5 : Tryd.prog.cellsOf 5 = 1 := by kernel_rfl
def laidList : List (String × DataW Unit) := [("math/bits.deBruijn32tab", Rows.laid_math_bits_deBruijn32tab), ("math/bits.deBruijn64tab", Rows.laid_math_bits_deBruijn64tab)]
theorem tabs_lie {W : World} (h : laidMetH Tryd.prog laidList W) : Lies W (tabBlk .u8 tab32 147) ⟨0, 0, 0⟩ ∧ Lies W (tabBlk .u8 tab64 148) ⟨1, 0, 0⟩ := by
 have h1 : laidMet Tryd.prog laidList W := h
 have h2 : laidMet Tryd.prog [("math/bits.deBruijn64tab", Rows.laid_math_bits_deBruijn64tab)] W := laidMet_tail h1
 exact ⟨lies_tab 147 g32 (Lib.tabIs_of_head g32 t32 Tryd.underlying147 Tryd.underlying5 cells5 cells147 h1) (by decide),
  lies_tab 148 g64 (Lib.tabIs_of_head g64 t64 Tryd.underlying148 Tryd.underlying5 cells5 cells148 h2) (by decide)⟩
theorem start {W : World} (h : laidMetH Tryd.prog laidList W) (l : List Blk) (ls : List Abs.Loc) (hlen : l.length = ls.length) (hl : ∀ (i : Nat) (B : Blk) (L : Abs.Loc), l[i]? = some B → ls[i]? = some L → Lies W B L) :
  Rel Tryd.prog (mapOf (tabLocs ++ ls)) (heapOf (tabs ++ l)) W := by
 obtain ⟨h1, h2⟩ := tabs_lie h
 refine rel_init _ _ (by simp [tabs, tabLocs, hlen]) (fun i B L hB hL => ?_) (fun g hg => ?_)
 ·match i, hB, hL with
  | 0, hB, hL => cases hB; cases hL; exact h1
  | 1, hB, hL => cases hB; cases hL; exact h2
  | i + 2, hB, hL => exact hl i B L (by simpa [tabs] using hB) (by simpa [tabLocs] using hL)
 ·rw [nglob] at hg
  match g, hg with
  | 0, _ => rfl
  | 1, _ => rfl
theorem tabs_wr : ∀ B ∈ tabs, B.wr = false := by
 intro B hB
 simp only [tabs, List.mem_cons, List.not_mem_nil, or_false] at hB
 rcases hB with rfl | rfl <;> rfl
def cellsInto (l : List Value) (o : Obj) : Obj :=
 match o with
 | .cells _ t frozen => .cells l.toArray t frozen
 | o => o
noncomputable def laidWorld (os : Os) : World :=
 { World.holding Tryd.prog os ⟨#[], #[], []⟩ with heap := ((World.holding Tryd.prog os ⟨#[], #[], []⟩).heap.modify 0 (cellsInto (tab32.map (Value.int .u8 ·)))).modify 1 (cellsInto (tab64.map (Value.int .u8 ·))) }
end Go.Proofs.YtcdhajbhpnbdkaaDoor

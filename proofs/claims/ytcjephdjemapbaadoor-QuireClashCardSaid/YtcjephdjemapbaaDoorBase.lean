/-
  The start of every call of this seat: the two tables of math/bits that the rows list, as blocks 0 and 1 of the abstract heap.
  Conditions: the rows' own (the tables are as the text lays them).
-/
import Derived.Test.YtcjephdjemapbaaDoorTabs
import Derived.Test.YtcjephdjemapbaaDoorCards
import Derived.Test.YtcjephdjemapbaaDoorTie
import Derived.Deep.DeepHandedRow
import GoSem.PinnedTables
set_option linter.unusedSimpArgs false
set_option linter.unusedVariables false
set_option linter.unusedSectionVars false
namespace Go.Proofs.YtcjephdjemapbaaDoor
open Go.Abs
def tabs : List Blk := [tabBlk .u8 tab32 124, tabBlk .u8 tab64 125, bareBlk 126, bareBlk 129, bareBlk 3]
def tabLocs : List Abs.Loc := [⟨0, 0, 0⟩, ⟨1, 0, 0⟩, ⟨2, 0, 0⟩, ⟨3, 0, 0⟩, ⟨4, 0, 0⟩]
theorem own : ownKnob Tryd.prog.godebug = none := by kernel_rfl
theorem mix : Tryd.prog.follows .mixedOrders = true := by kernel_rfl
theorem nglob : Tryd.prog.globals.size = 5 := by kernel_rfl
theorem g32 : Tryd.prog.globalNamed "math/bits.deBruijn32tab" = some 0 := by kernel_rfl
theorem g64 : Tryd.prog.globalNamed "math/bits.deBruijn64tab" = some 1 := by kernel_rfl
theorem t32 : (Tryd.prog.globals[0]?).map (·.type) = some 124 := by kernel_rfl
theorem t64 : (Tryd.prog.globals[1]?).map (·.type) = some 125 := by kernel_rfl
theorem cells124 : Tryd.prog.cellsOf 124 = 32 := by kernel_rfl
theorem cells125 : Tryd.prog.cellsOf 125 = 64 := by kernel_rfl
theorem cells5 : Tryd.prog.cellsOf 5 = 1 := by kernel_rfl
def laidList : List (String × DataW Unit) := [("math/bits.deBruijn32tab", Rows.laid_math_bits_deBruijn32tab), ("math/bits.deBruijn64tab", Rows.laid_math_bits_deBruijn64tab), ("unicode/utf8.acceptRanges", Rows.laid_unicode_utf8_acceptRanges), ("unicode/utf8.first", Rows.laid_unicode_utf8_first)]
theorem tabs_lie {W : World} (h : laidMetH Tryd.prog laidList W) : Lies W (tabBlk .u8 tab32 124) ⟨0, 0, 0⟩ ∧ Lies W (tabBlk .u8 tab64 125) ⟨1, 0, 0⟩ := by
 have h1 : laidMet Tryd.prog laidList W := h
 have h2 : laidMet Tryd.prog [("math/bits.deBruijn64tab", Rows.laid_math_bits_deBruijn64tab), ("unicode/utf8.acceptRanges", Rows.laid_unicode_utf8_acceptRanges), ("unicode/utf8.first", Rows.laid_unicode_utf8_first)] W := laidMet_tail h1
 exact ⟨lies_tab 124 g32 (Lib.tabIs_of_head g32 t32 Tryd.underlying124 Tryd.underlying5 cells5 cells124 h1) (by decide),
  lies_tab 125 g64 (Lib.tabIs_of_head g64 t64 Tryd.underlying125 Tryd.underlying5 cells5 cells125 h2) (by decide)⟩
noncomputable def zt (g : Nat) (h : (((begin Tryd.prog (fun _ _ => 0) default).world.heap[g]?).bind Obj.row?).isSome = true) : {zt : Array Value × TypeId // ((begin Tryd.prog (fun _ _ => 0) default).world.heap[g]?).bind Obj.row? = some (zt.1, zt.2)} := ⟨(Option.get _ h), (Option.some_get h).symm⟩
noncomputable def z2 := zt 2 (by kernel_rfl)
noncomputable def z3 := zt 3 (by kernel_rfl)
noncomputable def z4 := zt 4 (by kernel_rfl)
theorem start {W : World} (h : laidMetH Tryd.prog laidList W) (hS : W.ShapedOpen Tryd.prog) (l : List Blk) (ls : List Abs.Loc) (hlen : l.length = ls.length) (hl : ∀ (i : Nat) (B : Blk) (L : Abs.Loc), l[i]? = some B → ls[i]? = some L → Lies W B L) :
  Rel Tryd.prog (mapOf (tabLocs ++ ls)) (heapOf (tabs ++ l)) W := by
 obtain ⟨h1, h2⟩ := tabs_lie h
 refine rel_init _ _ (by simp [tabs, tabLocs, hlen]) (fun i B L hB hL => ?_) (fun g hg => ?_)
 ·match i, hB, hL with
  | 0, hB, hL => cases hB; cases hL; exact h1
  | 1, hB, hL => cases hB; cases hL; exact h2
  | 2, hB, hL => cases hB; cases hL; exact lies_bare 126 hS (by rw [nglob]; decide) z2.2
  | 3, hB, hL => cases hB; cases hL; exact lies_bare 129 hS (by rw [nglob]; decide) z3.2
  | 4, hB, hL => cases hB; cases hL; exact lies_bare 3 hS (by rw [nglob]; decide) z4.2
  | i + 5, hB, hL => exact hl i B L (by simpa [tabs] using hB) (by simpa [tabLocs] using hL)
 ·rw [nglob] at hg
  match g, hg with
  | 0, _ => rfl
  | 1, _ => rfl
  | 2, _ => rfl
  | 3, _ => rfl
  | 4, _ => rfl
theorem tabs_wr : ∀ B ∈ tabs, B.wr = false := by
 intro B hB
 simp only [tabs, List.mem_cons, List.not_mem_nil, or_false] at hB
 rcases hB with rfl | rfl | rfl | rfl | rfl <;> rfl
def cellsInto (l : List Value) (o : Obj) : Obj :=
 match o with
 | .cells _ t frozen => .cells l.toArray t frozen
 | o => o
def tabFirst : List Int := Pinned.utf8FirstZ.map Int.ofNat
def tabAccept : List Int := [128, 191, 160, 191, 128, 159, 144, 191, 128, 143, 0, 0, 0, 0, 0, 0, 0, 0, 0, 0, 0, 0, 0, 0, 0, 0, 0, 0, 0, 0, 0, 0]
noncomputable def laidWorld (os : Os) : World :=
 { World.holding Tryd.prog os ⟨#[], #[], []⟩ with heap := ((((World.holding Tryd.prog os ⟨#[], #[], []⟩).heap.modify 0 (cellsInto (tab32.map (Value.int .u8 ·)))).modify 1 (cellsInto (tab64.map (Value.int .u8 ·)))).modify 2 (cellsInto (tabFirst.map (Value.int .u8 ·)))).modify 3 (cellsInto (tabAccept.map (Value.int .u8 ·))) }
end Go.Proofs.YtcjephdjemapbaaDoor

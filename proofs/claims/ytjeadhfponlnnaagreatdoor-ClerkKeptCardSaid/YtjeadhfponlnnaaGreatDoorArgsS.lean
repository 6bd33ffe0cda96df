/-
  The start of every call of the rows that cut texts at blanks.
  Conditions: the rows' own (the listed variables are as the text lays them).
-/
import Derived.Test.YtjeadhfponlnnaaGreatDoorArgs
import Derived.Test.YtjeadhfponlnnaaGreatDoorLine48
set_option linter.unusedSimpArgs false
set_option linter.unusedVariables false
namespace Go.Proofs.YtjeadhfponlnnaaGreatDoor
open Go.RowKit Go.Pur Go.Clerk
open Go.Abs
set_option maxRecDepth 100000
def laidListS : List (String × DataW Unit) := [("math/bits.deBruijn32tab", Rows.laid_math_bits_deBruijn32tab), ("math/bits.deBruijn64tab", Rows.laid_math_bits_deBruijn64tab), ("internal/strconv.uint64pow10", Rows.laid_internal_strconv_uint64pow10), ("unicode/utf8.acceptRanges", Rows.laid_unicode_utf8_acceptRanges), ("strconv.ErrRange", Rows.laid_strconv_ErrRange), ("strconv.ErrSyntax", Rows.laid_strconv_ErrSyntax), ("unicode.White_Space", Rows.laid_unicode_White_Space), ("strings.asciiSpace", Rows.laid_strings_asciiSpace), ("unicode/utf8.first", Rows.laid_unicode_utf8_first)]
example : Rows.clerkFormsRow.laid = laidListS := rfl
theorem gsp : Tryz.prog.globalNamed "strings.asciiSpace" = some 0 := by kernel_rfl
theorem tsp : (Tryz.prog.globals[0]?).map (·.type) = some 141 := by kernel_rfl
theorem env_ofS {W : World} (h : laidMetH Tryz.prog laidListS W) (hS : W.ShapedOpen Tryz.prog) : EnvS W := by
 have h0 : laidMet Tryz.prog laidListS W := h
 have h2 := laidMet_tail (laidMet_tail h0)
 have h4 := laidMet_tail (laidMet_tail h2)
 have h5 := laidMet_tail h4
 have h7 := laidMet_tail (laidMet_tail h5)
 refine ⟨⟨?_, ?_, err_head gsyn terr3 h5, err_head grng terr4 h4, ?_⟩, Lib.tabIs_of_head gsp tsp Tryz.underlying141 (e := 5) (by kernel_rfl) (by kernel_rfl) (by kernel_rfl) h7⟩
 ·obtain ⟨zt, hz⟩ : ∃ zt : Array Value × TypeId, ((begin Tryz.prog (fun _ _ => 0) default).world.heap[15]?).bind Obj.row? = some zt := Option.isSome_iff_exists.1 (by kernel_rfl)
  obtain ⟨cs, hh, _, _⟩ := hS.1 15 zt.1 zt.2 (by rw [nglob]; decide) hz
  exact (Array.getElem?_eq_some_iff.1 hh).1
 ·obtain ⟨cs, hh, hs, hr⟩ := hS.1 2 #[.int .i64 0] 3 (by rw [nglob]; decide) (by kernel_rfl)
  obtain ⟨ts, hts, _, hc⟩ := hr (by kernel_rfl)
  have hts2 : Tryz.prog.cellTypes Tryz.prog.depth 3 = some [3] := by kernel_rfl
  rw [hts2] at hts
  cases hts
  have hs1 : cs.size = 1 := hs
  obtain ⟨v, hv⟩ : ∃ v, cs[0]? = some v := ⟨_, Array.getElem?_eq_getElem (by omega)⟩
  obtain ⟨u, hu, hok⟩ := hc 0 v hv
  simp at hu
  subst hu
  unfold Cell.ok at hok
  rw [Tryz.underlying3] at hok
  cases v <;> simp at hok
  rename_i k z
  obtain ⟨rfl, _⟩ := hok
  exact ⟨z, by simp [World.cell?, hh, hv]⟩
 ·exact Lib.tabIs_of_head gpow tpow Tryz.underlying251 (e := 208) (by kernel_rfl) (by kernel_rfl) (by kernel_rfl) h2
def tabWhite : List Int := [9, 13, 1, 32, 133, 101, 160, 5760, 5600, 8192, 8202, 1, 8232, 8233, 1, 8239, 8287, 48, 12288, 12288, 1]
def tabSpace : List Int := [0, 0, 0, 0, 0, 0, 0, 0, 0, 1, 1, 1, 1, 1, 0, 0, 0, 0, 0, 0, 0, 0, 0, 0, 0, 0, 0, 0, 0, 0, 0, 0, 1, 0, 0, 0, 0, 0, 0, 0, 0, 0, 0, 0, 0, 0, 0, 0, 0, 0, 0, 0, 0, 0, 0, 0, 0, 0, 0, 0, 0, 0, 0, 0, 0, 0, 0, 0, 0, 0, 0, 0, 0, 0, 0, 0, 0, 0, 0, 0, 0, 0, 0, 0, 0, 0, 0, 0, 0, 0, 0, 0, 0, 0, 0, 0, 0, 0, 0, 0, 0, 0, 0, 0, 0, 0, 0, 0, 0, 0, 0, 0, 0, 0, 0, 0, 0, 0, 0, 0, 0, 0, 0, 0, 0, 0, 0, 0, 0, 0, 0, 0, 0, 0, 0, 0, 0, 0, 0, 0, 0, 0, 0, 0, 0, 0, 0, 0, 0, 0, 0, 0, 0, 0, 0, 0, 0, 0, 0, 0, 0, 0, 0, 0, 0, 0, 0, 0, 0, 0, 0, 0, 0, 0, 0, 0, 0, 0, 0, 0, 0, 0, 0, 0, 0, 0, 0, 0, 0, 0, 0, 0, 0, 0, 0, 0, 0, 0, 0, 0, 0, 0, 0, 0, 0, 0, 0, 0, 0, 0, 0, 0, 0, 0, 0, 0, 0, 0, 0, 0, 0, 0, 0, 0, 0, 0, 0, 0, 0, 0, 0, 0, 0, 0, 0, 0, 0, 0, 0, 0, 0, 0, 0, 0, 0, 0, 0, 0, 0, 0, 0, 0, 0, 0, 0, 0]
noncomputable def laidWorldS (os : Os) : World :=
 let w0 := World.holding Tryz.prog os ⟨#[.cells #[.string textSyn] 263, .cells #[.string textRng] 263, .cells #[.slice (some ⟨low + 3, 0, none⟩) 7 7, .slice none 0 0, .int .i64 2] 227, .cells (tabWhite.map (Value.int .u16 ·)).toArray 229], #[], []⟩
 { w0 with heap := ((((((((w0.heap.modify 3 (cellsInto [.iface 261 (.pointer (some ⟨low, 0, none⟩))])).modify 4 (cellsInto [.iface 261 (.pointer (some ⟨low + 1, 0, none⟩))])).modify 5 (cellsInto (tabPow.map (Value.int .u64 ·)))).modify 6 (cellsInto (tab32.map (Value.int .u8 ·)))).modify 7 (cellsInto (tab64.map (Value.int .u8 ·)))).modify 8 (cellsInto (tabFirst.map (Value.int .u8 ·)))).modify 9 (cellsInto (tabAccept.map (Value.int .u8 ·)))).modify 1 (cellsInto [.pointer (some ⟨low + 2, 0, none⟩)])).modify 0 (cellsInto (tabSpace.map (Value.int .u8 ·))) }
end Go.Proofs.YtjeadhfponlnnaaGreatDoor

/-
  The start of every call of this seat: the variables that the rows list, and the one that they do not.
  Conditions: the rows' own (the listed variables are as the text lays them).
-/
import Derived.Test.YtjeadhfponlnnaaGreatDoorCounted77
import Derived.Test.YtjeadhfponlnnaaGreatDoorCards
import Derived.Test.YtjeadhfponlnnaaGreatDoorTie
import Derived.Deep.DeepHandedRow
import Derived.LaidLaws
import GoSem.PinnedTables
set_option linter.unusedSimpArgs false
set_option linter.unusedVariables false
namespace Go.Proofs.YtjeadhfponlnnaaGreatDoor
open Go.RowKit Go.Pur Go.Clerk
open Go.Abs
set_option maxRecDepth 100000
theorem own : ownKnob Tryz.prog.godebug = none := by kernel_rfl
theorem laidOut : laidOutB Tryz.prog = true := by kernel_rfl
def laidList : List (String × DataW Unit) := [("math/bits.deBruijn32tab", Rows.laid_math_bits_deBruijn32tab), ("math/bits.deBruijn64tab", Rows.laid_math_bits_deBruijn64tab), ("internal/strconv.uint64pow10", Rows.laid_internal_strconv_uint64pow10), ("unicode/utf8.acceptRanges", Rows.laid_unicode_utf8_acceptRanges), ("strconv.ErrRange", Rows.laid_strconv_ErrRange), ("strconv.ErrSyntax", Rows.laid_strconv_ErrSyntax), ("unicode/utf8.first", Rows.laid_unicode_utf8_first)]
theorem nglob : Tryz.prog.globals.size = 16 := by kernel_rfl
theorem gsyn : Tryz.prog.globalNamed "strconv.ErrSyntax" = some 3 := by kernel_rfl
theorem grng : Tryz.prog.globalNamed "strconv.ErrRange" = some 4 := by kernel_rfl
theorem gpow : Tryz.prog.globalNamed "internal/strconv.uint64pow10" = some 5 := by kernel_rfl
theorem tpow : (Tryz.prog.globals[5]?).map (·.type) = some 251 := by kernel_rfl
theorem terr3 : (Tryz.prog.globals[3]?).map (·.type) = some 72 := by kernel_rfl
theorem terr4 : (Tryz.prog.globals[4]?).map (·.type) = some 72 := by kernel_rfl
theorem err_head {W : World} {name : String} {g : Nat} {nm : String} {d : DataW Unit} {rest : List (String × DataW Unit)} (hg : Tryz.prog.globalNamed name = some g) (hty : (Tryz.prog.globals[g]?).map (·.type) = some 72)
  (h : laidMet Tryz.prog ((name, .iface nm d) :: rest) W) : ∃ ev, W.cell? ⟨g, 0, none⟩ = some ev ∧ (ev = .nilIface ∨ ∃ te pe, ev = .iface te pe) := by
 obtain ⟨ps, ⟨g', t', cs, fuel, p, q, hg', ht', hvar, hd, _, _⟩, _⟩ := h
 obtain rfl := Option.some.inj (hg.symm.trans hg')
 obtain rfl := Option.some.inj (hty.symm.trans ht')
 obtain ⟨_, u, v, hcs, _, _⟩ := Go.iface_of_trod Tryz.underlying72 hd
 refine ⟨.iface u v, ?_, .inr ⟨u, v, rfl⟩⟩
 have := World.var?_cell hg hvar 0
 rw [this, ← Array.getElem?_toList, hcs]
 rfl
theorem env_of {W : World} (h : laidMetH Tryz.prog laidList W) (hS : W.ShapedOpen Tryz.prog) : Env W := by
 have h0 : laidMet Tryz.prog laidList W := h
 have h2 := laidMet_tail (laidMet_tail h0)
 have h4 := laidMet_tail (laidMet_tail h2)
 have h5 := laidMet_tail h4
 refine ⟨?_, ?_, err_head gsyn terr3 h5, err_head grng terr4 h4, ?_⟩
 ·obtain ⟨zt, hz⟩ : ∃ zt : Array Value × TypeId, ((begin Tryz.prog (fun _ _ => 0) default).world.heap[15]?).bind Obj.row? = some zt := Option.isSome_iff_exists.1 (by kernel_rfl)
  obtain ⟨cs, hh, _, _⟩ := hS.1 15 zt.1 zt.2 (by rw [nglob]; decide) hz
  exact (Array.getElem?_eq_some_iff.1 hh).1
 ·obtain ⟨cs, hh, hs, hr⟩ := hS.1 2 #[.int .i64 0] 3 (by rw [nglob]; decide) (by kernel_rfl)
  obtain ⟨ts, hts, _, hc⟩ := hr (by kernel_rfl)
  have hts2 : Tryz.prog.cellTypes Tryz.prog.depth 3 = some [3] := by kernel_rfl
  rw [hts2] at hts
  cases hts
  have hs1 : cs.size = 1 := hs
  obtain ⟨v, hv⟩ : ∃ v, cs[0]? = some v := ⟨_, Array.getElem?_eq_getElem (by omega)⟩
  obtain ⟨u, hu, hok⟩ := hc 0 v hv
  simp at hu
  subst hu
  unfold Cell.ok at hok
  rw [Tryz.underlying3] at hok
  cases v <;> simp at hok
  rename_i k z
  obtain ⟨rfl, _⟩ := hok
  exact ⟨z, by simp [World.cell?, hh, hv]⟩
 ·exact Lib.tabIs_of_head gpow tpow Tryz.underlying251 (e := 208) (by kernel_rfl) (by kernel_rfl) (by kernel_rfl) h2
def cellsInto (l : List Value) (o : Obj) : Obj :=
 match o with
 | .cells _ t frozen => .cells l.toArray t frozen
 | o => o
def tab32 : List Int := [0, 1, 28, 2, 29, 14, 24, 3, 30, 22, 20, 15, 25, 17, 4, 8, 31, 27, 13, 23, 21, 19, 16, 7, 26, 12, 18, 6, 11, 5, 10, 9]
def tab64 : List Int := [0, 1, 56, 2, 57, 49, 28, 3, 61, 58, 42, 50, 38, 29, 17, 4, 62, 47, 59, 36, 45, 43, 51, 22, 53, 39, 33, 30, 24, 18, 12, 5, 63, 55, 48, 27, 60, 41, 37, 16, 46, 35, 44, 21, 52, 32, 23, 11, 54, 26, 40, 15, 34, 20, 31, 10, 25, 14, 19, 9, 13, 8, 7, 6]
def tabPow : List Int := [1, 10, 100, 1000, 10000, 100000, 1000000, 10000000, 100000000, 1000000000, 10000000000, 100000000000, 1000000000000, 10000000000000, 100000000000000, 1000000000000000, 10000000000000000, 100000000000000000, 1000000000000000000, 10000000000000000000]
def tabFirst : List Int := Pinned.utf8FirstZ.map Int.ofNat
def tabAccept : List Int := [128, 191, 160, 191, 128, 159, 144, 191, 128, 143, 0, 0, 0, 0, 0, 0, 0, 0, 0, 0, 0, 0, 0, 0, 0, 0, 0, 0, 0, 0, 0, 0]
def textSyn : ByteArray := { data := #[105, 110, 118, 97, 108, 105, 100, 32, 115, 121, 110, 116, 97, 120] }
def textRng : ByteArray := { data := #[118, 97, 108, 117, 101, 32, 111, 117, 116, 32, 111, 102, 32, 114, 97, 110, 103, 101] }
noncomputable def low : Nat := (World.holding Tryz.prog default ⟨#[], #[], []⟩).heap.size
noncomputable def laidWorld (os : Os) : World :=
 let w0 := World.holding Tryz.prog os ⟨#[.cells #[.string textSyn] 263, .cells #[.string textRng] 263], #[], []⟩
 { w0 with heap := ((((((w0.heap.modify 3 (cellsInto [.iface 261 (.pointer (some ⟨low, 0, none⟩))])).modify 4 (cellsInto [.iface 261 (.pointer (some ⟨low + 1, 0, none⟩))])).modify 5 (cellsInto (tabPow.map (Value.int .u64 ·)))).modify 6 (cellsInto (tab32.map (Value.int .u8 ·)))).modify 7 (cellsInto (tab64.map (Value.int .u8 ·)))).modify 8 (cellsInto (tabFirst.map (Value.int .u8 ·)))).modify 9 (cellsInto (tabAccept.map (Value.int .u8 ·))) }
end Go.Proofs.YtjeadhfponlnnaaGreatDoor

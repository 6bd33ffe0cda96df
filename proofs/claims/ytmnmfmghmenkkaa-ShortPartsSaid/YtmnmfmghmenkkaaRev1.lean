/-
  The opposite of a text (slices.Reverse: the kit's contract, laid for this seat by the kit's own programs).
  Conditions: none; lemmas.
-/
import Derived.Shelf.SlicesE.Reverse
import Derived.Test.YtmnmfmghmenkkaaBase
import Derived.WalkKit
import Derived.Handy
set_option linter.unusedSimpArgs false
set_option linter.unusedVariables false
namespace Go.Proofs
open Go.Shelf
def Try.revByte_ren : Go.Shelf.Ren := ⟨fun | 35 => 79 | n => n, fun | 22 => 75 | 23 => 5 | 3 => 3 | 4 => 4 | 0 => 0 | n => n, fun | n => n⟩
theorem Try.revByte : Go.Proofs.SlLaysE.n35 Try.prog Try.revByte_ren := {
 mixed := by kernel_rfl
 f35 := ⟨Try.f79.name, by decide, Try.func79.trans (congrArg some (by kernel_rfl))⟩
 t0 := Try.underlying0
 a0 := Try.isAgg0
 z0 := Try.sizeOf0
 v0 := Try.zeroValue0
 t3 := Try.underlying3
 a3 := Try.isAgg3
 z3 := Try.sizeOf3
 v3 := Try.zeroValue3
 t4 := Try.underlying4
 a4 := Try.isAgg4
 z4 := Try.sizeOf4
 v4 := Try.zeroValue4
 t22 := Try.underlying75
 a22 := Try.isAgg75
 z22 := Try.sizeOf75
 v22 := Try.zeroValue75
 a23 := Try.isAgg5
 z23 := Try.sizeOf5 }
namespace Ytmnmfmghmenkkaa
open Go.RowKit
set_option maxRecDepth 100000
set_option maxHeartbeats 1000000
theorem hidR {p : Prop} (h : p) : Hid p := h
theorem opposite_calls (s : ByteArray) (w : World) (hs : s.size ≤ 1000) :
  Calls Try.prog 55 #[.string s] w fun e w' => e = .returned (.string ⟨s.data.toList.reverse.toArray⟩) ∧ Below w.heap.size w w' := by
 go_enter Try.func55, Try.ntmps55
 go_wp2_with fail
 rw [Lib.run_convert_string_bytes w 9 75 5 s Try.underlying9 Try.underlying75 Try.underlying5]
 simp only [Result.andThen]
 rw [Oper.upon_value]
 have hH : Sort.Holds (fun b : UInt8 => Value.int .u8 b.toNat) (Lib.bytesWorld w 5 s) w.heap.size 0 s.data.toList.toArray := by
  intro j hj
  have hj' : j < s.size := by simpa using hj
  refine ⟨?_, ?_⟩
  ·rw [Nat.zero_add, Lib.bytesWorld_cell w 5 s j hj']
   have h1 : s.data[j]? = some (s.data[j]'hj') := Array.getElem?_eq_getElem hj'
   simp [List.getD, getElem!_def, h1]
  ·rw [Nat.zero_add]
   simp [World.frozen?, Lib.bytesWorld_at_new]
   simp [Lib.bytesCells]
   intro h
   exact absurd hj' (by have : s.data.size = s.size := rfl; omega)
 have Hh := hidR hH
 clear hH
 have hb0 : Below w.heap.size w (Lib.bytesWorld w 5 s) := ⟨rfl, rfl, rfl, by rw [Lib.bytesWorld_size]; omega, fun j hj => Lib.bytesWorld_at_old w 5 s j hj⟩
 have Hb := hidR hb0
 clear hb0
 go_wp2_with fail
 have hsz : s.data.toList.length = s.size := by simp
 rw [← hsz]
 refine (AnyE.slices_Reverse Try.revByte (fun b : UInt8 => Value.int .u8 b.toNat) (fun _ => rfl) w.heap.size 0 (grownCap w s.data.toList.length 0 5) s.data.toList (Lib.bytesWorld w 5 s) Hh.out (by omega)).mono ?_
 rintro e w1 ⟨rfl, n, rfl⟩
 have hc1 : ∀ j (hj : j < s.data.toList.reverse.length), (Sort.putRow (fun b : UInt8 => Value.int .u8 b.toNat) (Sort.ahead (Lib.bytesWorld w 5 s) n) w.heap.size 0 s.data.toList.reverse.toArray).cell? ((⟨w.heap.size, 0, none⟩ : Addr).add j) = some (.int .u8 (s.data.toList.reverse[j].toNat : Int)) := by
  intro j hj
  have h := Sort.cell?_putRow (fun b : UInt8 => Value.int .u8 b.toNat) (Sort.ahead (Lib.bytesWorld w 5 s) n) w.heap.size 0 s.data.toList.toArray s.data.toList.reverse.toArray Hh.out (by simp) j (by simpa using hj)
  rw [Nat.zero_add] at h
  rw [show (⟨w.heap.size, 0, none⟩ : Addr).add j = ⟨w.heap.size, j, none⟩ by cases j <;> simp [Addr.add], h]
  have h2 : s.data.toList.reverse.toArray[j]! = s.data.toList.reverse[j] := by
   rw [getElem!_pos _ j (by simpa using hj)]
   simp
  rw [h2]
 have hb1 : Below w.heap.size w (Sort.putRow (fun b : UInt8 => Value.int .u8 b.toNat) (Sort.ahead (Lib.bytesWorld w 5 s) n) w.heap.size 0 s.data.toList.reverse.toArray) := by
  refine Hb.out.trans ⟨rfl, rfl, rfl, by simp [Sort.ahead], fun k hk => ?_⟩
  simp only [Sort.putRow, Sort.mapBlock, Sort.ahead, Array.getElem?_modify]
  rw [if_neg (by omega)]
 generalize Sort.putRow (fun b : UInt8 => Value.int .u8 b.toNat) (Sort.ahead (Lib.bytesWorld w 5 s) n) w.heap.size 0 s.data.toList.reverse.toArray = w2 at hc1 hb1
 have Hc1 := hidR hc1
 have Hb1 := hidR hb1
 clear hc1 hb1 Hh Hb
 have hconv := run_convert_bytes_back (P := Try.prog) w2 75 9 5 ⟨w.heap.size, 0, none⟩ (grownCap w s.data.toList.length 0 5) s.data.toList.reverse Try.underlying75 Try.underlying5 Try.underlying9 Hc1.out
 rw [List.length_reverse, hsz] at hconv
 have Hconv := hidR hconv
 clear hconv
 go_wp2_with fail
 rw [Hconv.out]
 simp only [Result.andThen]
 rw [Oper.upon_value]
 go_wp2
 go_ret
 exact ⟨rfl, Hb1.out⟩
end Ytmnmfmghmenkkaa
end Go.Proofs

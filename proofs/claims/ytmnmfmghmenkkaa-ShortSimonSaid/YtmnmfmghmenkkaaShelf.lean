/-
  Contracts of the library, laid for this seat (by the kit's own programs lay-shelf, lay-plain).
  Conditions: none; lemmas.
-/
import Derived.Shelf.Strings.Builder1
import Derived.Shelf.Small.Strs
import Derived.Shelf.Sort.Plain
import Derived.Test.YtmnmfmghmenkkaaBase
namespace Go.Proofs
open Go.Shelf
def Try.lays169_ren : Go.Shelf.Ren := ⟨fun | 169 => 77 | n => n, fun | 70 => 92 | 9 => 9 | 0 => 0 | 72 => 94 | 37 => 75 | 127 => 112 | 3 => 3 | 5 => 5 | n => n, fun | n => n⟩
theorem Try.lays169 : Go.Proofs.Lays.n169 Try.prog Try.lays169_ren := {
 mixed := by kernel_rfl
 f169 := Try.func77.trans (congrArg some (by kernel_rfl))
 t0 := Try.underlying0
 a0 := Try.isAgg0
 z0 := Try.sizeOf0
 v0 := Try.zeroValue0
 t3 := Try.underlying3
 a3 := Try.isAgg3
 z3 := Try.sizeOf3
 v3 := Try.zeroValue3
 t9 := Try.underlying9
 a9 := Try.isAgg9
 z9 := Try.sizeOf9
 v9 := Try.zeroValue9
 t37 := Try.underlying75
 a37 := Try.isAgg75
 z37 := Try.sizeOf75
 v37 := Try.zeroValue75
 t70 := Try.underlying92
 a70 := Try.isAgg92
 z70 := Try.sizeOf92
 v70 := Try.zeroValue92
 t72 := Try.underlying94
 a72 := Try.isAgg94
 z72 := Try.sizeOf94
 v72 := Try.zeroValue94
 t127 := Try.underlying112
 a127 := Try.isAgg112
 z127 := Try.sizeOf112
 v127 := Try.zeroValue112 }
theorem Try.Builder_Extra_169 : Builder.Extra Try.prog Try.lays169_ren := {
 sizeBuilder := by kernel_rfl
 liesBuilder := by kernel_rfl
 t5 := Try.underlying5
 a5 := Try.isAgg5
 z5 := Try.sizeOf5
 v5 := Try.zeroValue5
 infoByte := by kernel_rfl
 cellsByte := by kernel_rfl
 sizeByte := by kernel_rfl
 neB5 := by decide }
def Try.lays137_ren : Go.Shelf.Ren := ⟨fun | 137 => 56 | 217 => 80 | 266 => 86 | n => n, fun | 9 => 9 | 5 => 5 | 3 => 3 | n => n, fun | n => n⟩
theorem Try.lays137 : Go.Proofs.Lays.n137 Try.prog Try.lays137_ren := {
 mixed := by kernel_rfl
 f137 := Try.func56.trans (congrArg some (by kernel_rfl))
 f217 := Try.func80.trans (congrArg some (by kernel_rfl))
 f266 := Try.func86.trans (congrArg some (by kernel_rfl))
 t3 := Try.underlying3
 a3 := Try.isAgg3
 z3 := Try.sizeOf3
 v3 := Try.zeroValue3
 t5 := Try.underlying5
 a5 := Try.isAgg5
 z5 := Try.sizeOf5
 v5 := Try.zeroValue5
 t9 := Try.underlying9
 a9 := Try.isAgg9
 z9 := Try.sizeOf9
 v9 := Try.zeroValue9 }
open Go.RowKit in
theorem Try.strings_IndexByte (s : ByteArray) (c : Int) (w : World) :
  Calls Try.prog 56 #[.string s, .int .u8 c] w fun e w' => e = .returned (.int .i64 (Lib.indexByte s.data.toList c.toNat.toUInt8)) ∧ w' = w := Any.strings_IndexByte Try.lays137 s c w
def Try.lays190_ren : Go.Shelf.Ren := ⟨fun | 190 => 78 | 125 => 85 | 258 => 84 | 128 => 97 | 129 => 98 | 302 => 88 | 303 => 89 | 304 => 90 | 305 => 91 | 306 => 92 | 307 => 93 | 308 => 94 | 309 => 95 | 310 => 96 | 333 => 99 | 329 => 100 | 330 => 101 | 334 => 102 | 335 => 103 | 336 => 104 | 344 => 105 | n => n, fun | 31 => 36 | 9 => 9 | 3 => 3 | 46 => 115 | 0 => 0 | 51 => 127 | 53 => 129 | 4 => 4 | 183 => 120 | 182 => 119 | 131 => 124 | 5 => 5 | 218 => 130 | 222 => 134 | 228 => 136 | 229 => 137 | n => n, fun | n => n⟩
theorem Try.lays190 : Go.Proofs.Lays.n190 Try.prog Try.lays190_ren := {
 mixed := by kernel_rfl
 f125 := Try.func85.trans (congrArg some (by kernel_rfl))
 f128 := Try.func97.trans (congrArg some (by kernel_rfl))
 f129 := Try.func98.trans (congrArg some (by kernel_rfl))
 f190 := Try.func78.trans (congrArg some (by kernel_rfl))
 f258 := Try.func84.trans (congrArg some (by kernel_rfl))
 f302 := Try.func88.trans (congrArg some (by kernel_rfl))
 f303 := Try.func89.trans (congrArg some (by kernel_rfl))
 f304 := Try.func90.trans (congrArg some (by kernel_rfl))
 f305 := Try.func91.trans (congrArg some (by kernel_rfl))
 f306 := Try.func92.trans (congrArg some (by kernel_rfl))
 f307 := Try.func93.trans (congrArg some (by kernel_rfl))
 f308 := Try.func94.trans (congrArg some (by kernel_rfl))
 f309 := Try.func95.trans (congrArg some (by kernel_rfl))
 f310 := Try.func96.trans (congrArg some (by kernel_rfl))
 f329 := Try.func100.trans (congrArg some (by kernel_rfl))
 f330 := Try.func101.trans (congrArg some (by kernel_rfl))
 f333 := Try.func99.trans (congrArg some (by kernel_rfl))
 f334 := Try.func102.trans (congrArg some (by kernel_rfl))
 f335 := Try.func103.trans (congrArg some (by kernel_rfl))
 f336 := Try.func104.trans (congrArg some (by kernel_rfl))
 f344 := Try.func105.trans (congrArg some (by kernel_rfl))
 t0 := Try.underlying0
 a0 := Try.isAgg0
 z0 := Try.sizeOf0
 v0 := Try.zeroValue0
 t3 := Try.underlying3
 a3 := Try.isAgg3
 z3 := Try.sizeOf3
 v3 := Try.zeroValue3
 t4 := Try.underlying4
 a4 := Try.isAgg4
 z4 := Try.sizeOf4
 v4 := Try.zeroValue4
 t5 := Try.underlying5
 a5 := Try.isAgg5
 z5 := Try.sizeOf5
 v5 := Try.zeroValue5
 t9 := Try.underlying9
 a9 := Try.isAgg9
 z9 := Try.sizeOf9
 v9 := Try.zeroValue9
 t31 := Try.underlying36
 a31 := Try.isAgg36
 z31 := Try.sizeOf36
 v31 := Try.zeroValue36
 t46 := Try.underlying115
 a46 := Try.isAgg115
 z46 := Try.sizeOf115
 v46 := Try.zeroValue115
 t51 := Try.underlying127
 a51 := Try.isAgg127
 z51 := Try.sizeOf127
 v51 := Try.zeroValue127
 t53 := Try.underlying129
 a53 := Try.isAgg129
 z53 := Try.sizeOf129
 v53 := Try.zeroValue129
 t131 := Try.underlying124
 a131 := Try.isAgg124
 z131 := Try.sizeOf124
 v131 := Try.zeroValue124
 t182 := Try.underlying119
 a182 := Try.isAgg119
 z182 := Try.sizeOf119
 v182 := Try.zeroValue119
 t183 := Try.underlying120
 a183 := Try.isAgg120
 z183 := Try.sizeOf120
 v183 := Try.zeroValue120
 t218 := Try.underlying130
 a218 := Try.isAgg130
 z218 := Try.sizeOf130
 v218 := Try.zeroValue130
 t222 := Try.underlying134
 a222 := Try.isAgg134
 z222 := Try.sizeOf134
 v222 := Try.zeroValue134
 t228 := Try.underlying136
 a228 := Try.isAgg136
 z228 := Try.sizeOf136
 v228 := Try.zeroValue136
 t229 := Try.underlying137
 a229 := Try.isAgg137
 z229 := Try.sizeOf137
 v229 := Try.zeroValue137 }
open Go.Sort Go.RowKit in
theorem Try.slices_Sort_string (blk off cap : Nat) (ss : List (List UInt8)) (w : World) (hH : Holds encStr w blk off ss.toArray) (hblk : blk < w.heap.size) (hsz : ss.length < 4611686018427387904) :
  Calls Try.prog 78 #[.slice (some ⟨blk, off, none⟩) ss.length cap] w fun e w' =>
   e = .returned (.tuple #[]) ∧ ∃ n os, w' = grow (putRow encStr (Sort.ahead w n) blk off (ss.mergeSort fun x y => decide (x ≤ y)).toArray) os := Any.slices_Sort_string Try.lays190 blk off cap ss w hH hblk hsz
end Go.Proofs

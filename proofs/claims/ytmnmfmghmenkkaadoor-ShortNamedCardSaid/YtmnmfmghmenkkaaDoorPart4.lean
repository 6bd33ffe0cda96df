/-
  The seat's policy for the pure evaluator,and what its types are (printed by a tool).
  What simp needs to carry the pure evaluator through code with symbolic values.
  Unary operations,operations on bits,for the pure evaluator's walk.
  From a call of the pure evaluator that answers true to the row's own words.
  Arguments of a law,as the row reads them,for the pure evaluator.
  What is known of functions: of plain values and lists of them.
  A runner for the kernel: the pure evaluator's steps in small pieces,with an oracle of calls that are known already; what it answers,the evaluator without fuel answers.
  Strings in the pure evaluator: one byte,and parts.
  Side facts of walks,for simp with omega as discharger.
  Plain pieces of what functions compute,and what the walk needs of each; loops whose plain functions take fuel.
  Arrays of two elements,compared.
  Maps,as plain lists of keys,elements and stamps; parts of texts.
  The seat's policy for the pure evaluator.
  Contracts of the library,laid for this seat (by the kit's own programs lay-shelf,lay-plain).
  A text that is built byte by byte: the functions of strings.Builder,and strings.Map.
  The function that makes a word of a slip.
  Slips and six bytes,as the row of this seat reads them: as values.
  The bytes of a text,as numbers.
  The start of every call of this seat: no table; the three variables are bare blocks.
  The chapter's examples hold in every world: a closed run of the abstract evaluator.
  strings.Map at texts of ASCII,with a function that gives ASCII.
  The pure evaluator's answers,for proofs in the model: calls whose arguments lie in memory and whose answer is plain.
  The error of a word; a string that is left of another one.
  Places of a part,counted.
  Printed by wip/tools/walk.py. Conditions: none; definitions and lemmas.
  Arches.
  Printed by wip/tools/walk.py. Conditions: none; definitions and lemmas.
  Different parts,counted.
  Printed by wip/tools/walk.py. Conditions: none; definitions and lemmas.
  Conditions: none; closed facts.
-/
import Derived.Test.YtmnmfmghmenkkaaDoorProg
import Derived.Carry
import Derived.Deep.Slices
import Derived.Shelf.Small.Utf8
import Derived.Shelf.Strings.Builder1
import Derived.Shelf.Strings.Builder2
import Derived.Test.YtmnmfmghmenkkaaDoorChecked
import Derived.Deep.DeepFit
import Derived.Deep.DeepMust
import Derived.Deep.LoopGhost
import Derived.Handy
import Derived.Lib.FrozenHead2
import Derived.Lib.OthersKept
import Derived.Shelf.Strings.BuilderF
import Derived.WalkKit
import Derived.Deep.DeepHandedRow
import Derived.Test.YtmnmfmghmenkkaaDoorCards
import Derived.Test.YtmnmfmghmenkkaaDoorTie
import GoSem.PinnedTables
import Derived.Test.YtmnmfmghmenkkaaDoorPurB
import Derived.Test.YtmnmfmghmenkkaaDoorAbsB
set_option linter.unusedSimpArgs false
set_option linter.unusedVariables false
namespace Go.Proofs.YtmnmfmghmenkkaaDoor
open Go.Abs Go.Pur
def masks : List Nat := [0,0,0,1912602623,11,379892319529162072251379,11,1966799,4415729764083,926589,2163,33571891,4722366482869645737983,1037,4723277,2097283,51,115,5,19,5,33781,265877,1103119539,2111987,4211,140874931274739,8819,35322884853747,8405491,559047,9275205348510451,5,31457523,5,33571891,2105395,316912838952437276284744179709,524353,19,147,138351144534133443293,66483,2365794927730275418055,65735,21,19,11,1,1,1125899940399155,5,131783,66483,10384593871817177683247510831234831,5,1073746119,1074268103,8804682991559,20829169751433159,8391,83087207854311395603287443752634311,19,19023213622105999119,22458641409078797123448399039441150152463,277,16661,4503668346913551,5,5,71,1055,5,262927,1,1,1,1,1,1,1,1,1,1,1,1,1,1,1,1,1,0,0,0,0,0]
def keepOf (f t : Nat) : Bool := masks.getD f 0 / 2 ^ t % 2 == 1
theorem keep8 (t : Nat) : keepOf 8 t = (4415729764083 / 2 ^ t % 2 == 1) := rfl
theorem keep9 (t : Nat) : keepOf 9 t = (926589 / 2 ^ t % 2 == 1) := rfl
theorem keep10 (t : Nat) : keepOf 10 t = (2163 / 2 ^ t % 2 == 1) := rfl
theorem keep11 (t : Nat) : keepOf 11 t = (33571891 / 2 ^ t % 2 == 1) := rfl
theorem keep21 (t : Nat) : keepOf 21 t = (33781 / 2 ^ t % 2 == 1) := rfl
theorem keep22 (t : Nat) : keepOf 22 t = (265877 / 2 ^ t % 2 == 1) := rfl
theorem keep23 (t : Nat) : keepOf 23 t = (1103119539 / 2 ^ t % 2 == 1) := rfl
theorem keep24 (t : Nat) : keepOf 24 t = (2111987 / 2 ^ t % 2 == 1) := rfl
theorem sz3 : szOf Tryd.prog 3 = some 1 := by kernel_rfl
theorem by3 : byOf Tryd.prog 3 = some 8 := by kernel_rfl
theorem row3 : isRowT Tryd.prog 3 = some false := by kernel_rfl
theorem zero3 : zeroOf Tryd.prog 3 = some (.int .i64 0) := by kernel_rfl
theorem sz4 : szOf Tryd.prog 4 = some 1 := by kernel_rfl
theorem by4 : byOf Tryd.prog 4 = some 1 := by kernel_rfl
theorem row4 : isRowT Tryd.prog 4 = some false := by kernel_rfl
theorem zero4 : zeroOf Tryd.prog 4 = some (.bool false) := by kernel_rfl
theorem sz5 : szOf Tryd.prog 5 = some 1 := by kernel_rfl
theorem by5 : byOf Tryd.prog 5 = some 1 := by kernel_rfl
theorem row5 : isRowT Tryd.prog 5 = some false := by kernel_rfl
theorem zero5 : zeroOf Tryd.prog 5 = some (.int .u8 0) := by kernel_rfl
theorem sz9 : szOf Tryd.prog 9 = some 1 := by kernel_rfl
theorem by9 : byOf Tryd.prog 9 = some 16 := by kernel_rfl
theorem row9 : isRowT Tryd.prog 9 = some false := by kernel_rfl
theorem shape9 : shapeOf Tryd.prog 9 = some .string := by kernel_rfl
theorem zero9 : zeroOf Tryd.prog 9 = some (.string ⟨#[]⟩) := by kernel_rfl
theorem sz21 : szOf Tryd.prog 21 = some 1 := by kernel_rfl
theorem by21 : byOf Tryd.prog 21 = some 4 := by kernel_rfl
theorem row21 : isRowT Tryd.prog 21 = some false := by kernel_rfl
theorem zero21 : zeroOf Tryd.prog 21 = some (.int .i32 0) := by kernel_rfl
theorem sz22 : szOf Tryd.prog 22 = some 10 := by kernel_rfl
theorem by22 : byOf Tryd.prog 22 = some 10 := by kernel_rfl
theorem row22 : isRowT Tryd.prog 22 = some true := by kernel_rfl
theorem shape22 : shapeOf Tryd.prog 22 = some (.array 10 5 1) := by kernel_rfl
theorem zero22 : zeroOf Tryd.prog 22 = some (.agg #[.int .u8 0,.int .u8 0,.int .u8 0,.int .u8 0,.int .u8 0,.int .u8 0,.int .u8 0,.int .u8 0,.int .u8 0,.int .u8 0]) := by kernel_rfl
theorem parts22 : partsOf Tryd.prog 22 = some (.arr 1) := by kernel_rfl
theorem sz24 : szOf Tryd.prog 24 = some 11 := by kernel_rfl
theorem by24 : byOf Tryd.prog 24 = some 11 := by kernel_rfl
theorem row24 : isRowT Tryd.prog 24 = some true := by kernel_rfl
theorem zero24 : zeroOf Tryd.prog 24 = some (.agg #[.int .u8 0,.int .u8 0,.int .u8 0,.int .u8 0,.int .u8 0,.int .u8 0,.int .u8 0,.int .u8 0,.int .u8 0,.int .u8 0,.int .u8 0]) := by kernel_rfl
theorem parts24 : partsOf Tryd.prog 24 = some (.rows [(0,1),(1,10)]) := by kernel_rfl
theorem field24_0 : fieldOf Tryd.prog 24 0 = some (5,0,1) := by kernel_rfl
theorem field24_1 : fieldOf Tryd.prog 24 1 = some (22,1,10) := by kernel_rfl
theorem sz25 : szOf Tryd.prog 25 = some 6 := by kernel_rfl
theorem by25 : byOf Tryd.prog 25 = some 6 := by kernel_rfl
theorem row25 : isRowT Tryd.prog 25 = some true := by kernel_rfl
theorem shape25 : shapeOf Tryd.prog 25 = some (.array 6 5 1) := by kernel_rfl
theorem zero25 : zeroOf Tryd.prog 25 = some (.agg #[.int .u8 0,.int .u8 0,.int .u8 0,.int .u8 0,.int .u8 0,.int .u8 0]) := by kernel_rfl
theorem parts25 : partsOf Tryd.prog 25 = some (.arr 1) := by kernel_rfl
theorem sz26 : szOf Tryd.prog 26 = some 1 := by kernel_rfl
theorem by26 : byOf Tryd.prog 26 = some 24 := by kernel_rfl
theorem row26 : isRowT Tryd.prog 26 = some false := by kernel_rfl
theorem shape26 : shapeOf Tryd.prog 26 = some (.slice 5 1) := by kernel_rfl
theorem zero26 : zeroOf Tryd.prog 26 = some (.slice none 0 0) := by kernel_rfl
theorem sz28 : szOf Tryd.prog 28 = some 1 := by kernel_rfl
theorem by28 : byOf Tryd.prog 28 = some 8 := by kernel_rfl
theorem row28 : isRowT Tryd.prog 28 = some false := by kernel_rfl
theorem zero28 : zeroOf Tryd.prog 28 = some (.nilFunc) := by kernel_rfl
theorem sz31 : szOf Tryd.prog 31 = some 1 := by kernel_rfl
theorem by31 : byOf Tryd.prog 31 = some 8 := by kernel_rfl
theorem row31 : isRowT Tryd.prog 31 = some false := by kernel_rfl
theorem zero31 : zeroOf Tryd.prog 31 = some (.int .i64 0) := by kernel_rfl
theorem sz35 : szOf Tryd.prog 35 = some 1 := by kernel_rfl
theorem by35 : byOf Tryd.prog 35 = some 24 := by kernel_rfl
theorem row35 : isRowT Tryd.prog 35 = some false := by kernel_rfl
theorem shape35 : shapeOf Tryd.prog 35 = some (.slice 3 1) := by kernel_rfl
theorem zero35 : zeroOf Tryd.prog 35 = some (.slice none 0 0) := by kernel_rfl
theorem sz41 : szOf Tryd.prog 41 = some 1 := by kernel_rfl
theorem by41 : byOf Tryd.prog 41 = some 8 := by kernel_rfl
theorem row41 : isRowT Tryd.prog 41 = some false := by kernel_rfl
theorem zero41 : zeroOf Tryd.prog 41 = some (.pointer none) := by kernel_rfl
theorem sz43 : szOf Tryd.prog 43 = some 2 := by kernel_rfl
theorem by43 : byOf Tryd.prog 43 = some 32 := by kernel_rfl
theorem row43 : isRowT Tryd.prog 43 = some true := by kernel_rfl
theorem zero43 : zeroOf Tryd.prog 43 = some (.agg #[.pointer none,.slice none 0 0]) := by kernel_rfl
theorem parts43 : partsOf Tryd.prog 43 = some (.rows [(0,1),(1,1)]) := by kernel_rfl
theorem field43_0 : fieldOf Tryd.prog 43 0 = some (41,0,1) := by kernel_rfl
theorem field43_1 : fieldOf Tryd.prog 43 1 = some (26,1,1) := by kernel_rfl
theorem sz58 : szOf Tryd.prog 58 = some 1 := by kernel_rfl
theorem by58 : byOf Tryd.prog 58 = some 8 := by kernel_rfl
theorem row58 : isRowT Tryd.prog 58 = some false := by kernel_rfl
theorem zero58 : zeroOf Tryd.prog 58 = some (.map none) := by kernel_rfl
theorem mt58 : mapTy Tryd.prog 58 = some (21,3) := by kernel_rfl
theorem az3 : azero Tryd.prog 3 = some (.int .i64 0) := by kernel_rfl
theorem sz64 : szOf Tryd.prog 64 = some 1 := by kernel_rfl
theorem by64 : byOf Tryd.prog 64 = some 24 := by kernel_rfl
theorem row64 : isRowT Tryd.prog 64 = some false := by kernel_rfl
theorem shape64 : shapeOf Tryd.prog 64 = some (.slice 9 1) := by kernel_rfl
theorem zero64 : zeroOf Tryd.prog 64 = some (.slice none 0 0) := by kernel_rfl
theorem sz78 : szOf Tryd.prog 78 = some 1 := by kernel_rfl
theorem by78 : byOf Tryd.prog 78 = some 8 := by kernel_rfl
theorem row78 : isRowT Tryd.prog 78 = some false := by kernel_rfl
theorem zero78 : zeroOf Tryd.prog 78 = some (.pointer none) := by kernel_rfl
theorem sz79 : szOf Tryd.prog 79 = some 1 := by kernel_rfl
theorem by79 : byOf Tryd.prog 79 = some 8 := by kernel_rfl
theorem row79 : isRowT Tryd.prog 79 = some false := by kernel_rfl
theorem zero79 : zeroOf Tryd.prog 79 = some (.map none) := by kernel_rfl
theorem mt79 : mapTy Tryd.prog 79 = some (21,4) := by kernel_rfl
theorem az4 : azero Tryd.prog 4 = some (.bool false) := by kernel_rfl
theorem sz80 : szOf Tryd.prog 80 = some 1 := by kernel_rfl
theorem by80 : byOf Tryd.prog 80 = some 24 := by kernel_rfl
theorem row80 : isRowT Tryd.prog 80 = some false := by kernel_rfl
theorem shape80 : shapeOf Tryd.prog 80 = some (.slice 64 1) := by kernel_rfl
theorem zero80 : zeroOf Tryd.prog 80 = some (.slice none 0 0) := by kernel_rfl
theorem sz88 : szOf Tryd.prog 88 = some 1 := by kernel_rfl
theorem by88 : byOf Tryd.prog 88 = some 8 := by kernel_rfl
theorem row88 : isRowT Tryd.prog 88 = some false := by kernel_rfl
theorem zero88 : zeroOf Tryd.prog 88 = some (.nilFunc) := by kernel_rfl
theorem sz89 : szOf Tryd.prog 89 = some 256 := by kernel_rfl
theorem by89 : byOf Tryd.prog 89 = some 256 := by kernel_rfl
theorem row89 : isRowT Tryd.prog 89 = some true := by kernel_rfl
theorem shape89 : shapeOf Tryd.prog 89 = some (.array 256 5 1) := by kernel_rfl
theorem parts89 : partsOf Tryd.prog 89 = some (.arr 1) := by kernel_rfl
theorem sz90 : szOf Tryd.prog 90 = some 1 := by kernel_rfl
theorem by90 : byOf Tryd.prog 90 = some 8 := by kernel_rfl
theorem row90 : isRowT Tryd.prog 90 = some false := by kernel_rfl
theorem zero90 : zeroOf Tryd.prog 90 = some (.int .u64 0) := by kernel_rfl
theorem sz92 : szOf Tryd.prog 92 = some 2 := by kernel_rfl
theorem by92 : byOf Tryd.prog 92 = some 2 := by kernel_rfl
theorem row92 : isRowT Tryd.prog 92 = some true := by kernel_rfl
theorem zero92 : zeroOf Tryd.prog 92 = some (.agg #[.int .u8 0,.int .u8 0]) := by kernel_rfl
theorem parts92 : partsOf Tryd.prog 92 = some (.rows [(0,1),(1,1)]) := by kernel_rfl
theorem field92_0 : fieldOf Tryd.prog 92 0 = some (5,0,1) := by kernel_rfl
theorem field92_1 : fieldOf Tryd.prog 92 1 = some (5,1,1) := by kernel_rfl
theorem sz93 : szOf Tryd.prog 93 = some 32 := by kernel_rfl
theorem by93 : byOf Tryd.prog 93 = some 32 := by kernel_rfl
theorem row93 : isRowT Tryd.prog 93 = some true := by kernel_rfl
theorem shape93 : shapeOf Tryd.prog 93 = some (.array 16 92 2) := by kernel_rfl
theorem zero93 : zeroOf Tryd.prog 93 = some (.agg #[.int .u8 0,.int .u8 0,.int .u8 0,.int .u8 0,.int .u8 0,.int .u8 0,.int .u8 0,.int .u8 0,.int .u8 0,.int .u8 0,.int .u8 0,.int .u8 0,.int .u8 0,.int .u8 0,.int .u8 0,.int .u8 0,.int .u8 0,.int .u8 0,.int .u8 0,.int .u8 0,.int .u8 0,.int .u8 0,.int .u8 0,.int .u8 0,.int .u8 0,.int .u8 0,.int .u8 0,.int .u8 0,.int .u8 0,.int .u8 0,.int .u8 0,.int .u8 0]) := by kernel_rfl
theorem parts93 : partsOf Tryd.prog 93 = some (.arr 2) := by kernel_rfl
theorem sz94 : szOf Tryd.prog 94 = some 1 := by kernel_rfl
theorem by94 : byOf Tryd.prog 94 = some 8 := by kernel_rfl
theorem row94 : isRowT Tryd.prog 94 = some false := by kernel_rfl
theorem zero94 : zeroOf Tryd.prog 94 = some (.pointer none) := by kernel_rfl
theorem sz97 : szOf Tryd.prog 97 = some 1 := by kernel_rfl
theorem by97 : byOf Tryd.prog 97 = some 4 := by kernel_rfl
theorem row97 : isRowT Tryd.prog 97 = some false := by kernel_rfl
theorem zero97 : zeroOf Tryd.prog 97 = some (.int .u32 0) := by kernel_rfl
theorem sz98 : szOf Tryd.prog 98 = some 1 := by kernel_rfl
theorem by98 : byOf Tryd.prog 98 = some 8 := by kernel_rfl
theorem row98 : isRowT Tryd.prog 98 = some false := by kernel_rfl
theorem zero98 : zeroOf Tryd.prog 98 = some (.map none) := by kernel_rfl
theorem mt98 : mapTy Tryd.prog 98 = some (9,4) := by kernel_rfl
theorem sz102 : szOf Tryd.prog 102 = some 2 := by kernel_rfl
theorem by102 : byOf Tryd.prog 102 = some 16 := by kernel_rfl
theorem row102 : isRowT Tryd.prog 102 = some true := by kernel_rfl
theorem zero102 : zeroOf Tryd.prog 102 = some (.agg #[.int .i64 0,.int .i64 0]) := by kernel_rfl
theorem parts102 : partsOf Tryd.prog 102 = some (.rows [(0,1),(1,1)]) := by kernel_rfl
theorem field102_0 : fieldOf Tryd.prog 102 0 = some (3,0,1) := by kernel_rfl
theorem field102_1 : fieldOf Tryd.prog 102 1 = some (3,1,1) := by kernel_rfl
theorem sz104 : szOf Tryd.prog 104 = some 3 := by kernel_rfl
theorem by104 : byOf Tryd.prog 104 = some 32 := by kernel_rfl
theorem row104 : isRowT Tryd.prog 104 = some true := by kernel_rfl
theorem zero104 : zeroOf Tryd.prog 104 = some (.agg #[.int .i64 0,.int .i64 0,.string ⟨#[]⟩]) := by kernel_rfl
theorem parts104 : partsOf Tryd.prog 104 = some (.rows [(0,2),(2,1)]) := by kernel_rfl
theorem field104_0 : fieldOf Tryd.prog 104 0 = some (102,0,2) := by kernel_rfl
theorem field104_1 : fieldOf Tryd.prog 104 1 = some (9,2,1) := by kernel_rfl
theorem sz105 : szOf Tryd.prog 105 = some 1 := by kernel_rfl
theorem by105 : byOf Tryd.prog 105 = some 24 := by kernel_rfl
theorem row105 : isRowT Tryd.prog 105 = some false := by kernel_rfl
theorem shape105 : shapeOf Tryd.prog 105 = some (.slice 104 3) := by kernel_rfl
theorem zero105 : zeroOf Tryd.prog 105 = some (.slice none 0 0) := by kernel_rfl
theorem sz106 : szOf Tryd.prog 106 = some 1 := by kernel_rfl
theorem by106 : byOf Tryd.prog 106 = some 8 := by kernel_rfl
theorem row106 : isRowT Tryd.prog 106 = some false := by kernel_rfl
theorem zero106 : zeroOf Tryd.prog 106 = some (.map none) := by kernel_rfl
theorem mt106 : mapTy Tryd.prog 106 = some (102,4) := by kernel_rfl
theorem sz111 : szOf Tryd.prog 111 = some 1 := by kernel_rfl
theorem by111 : byOf Tryd.prog 111 = some 8 := by kernel_rfl
theorem row111 : isRowT Tryd.prog 111 = some false := by kernel_rfl
theorem zero111 : zeroOf Tryd.prog 111 = some (.int .i64 0) := by kernel_rfl
theorem sz120 : szOf Tryd.prog 120 = some 1 := by kernel_rfl
theorem by120 : byOf Tryd.prog 120 = some 8 := by kernel_rfl
theorem row120 : isRowT Tryd.prog 120 = some false := by kernel_rfl
theorem zero120 : zeroOf Tryd.prog 120 = some (.int .u64 0) := by kernel_rfl
theorem sz121 : szOf Tryd.prog 121 = some 1 := by kernel_rfl
theorem by121 : byOf Tryd.prog 121 = some 8 := by kernel_rfl
theorem row121 : isRowT Tryd.prog 121 = some false := by kernel_rfl
theorem zero121 : zeroOf Tryd.prog 121 = some (.int .u64 0) := by kernel_rfl
theorem sz125 : szOf Tryd.prog 125 = some 1 := by kernel_rfl
theorem by125 : byOf Tryd.prog 125 = some 8 := by kernel_rfl
theorem row125 : isRowT Tryd.prog 125 = some false := by kernel_rfl
theorem zero125 : zeroOf Tryd.prog 125 = some (.pointer none) := by kernel_rfl
theorem body8 : bodyOf Tryd.prog 8 = some (Tryd.f8,(Tryd.f8.body).get rfl) := by
 unfold bodyOf
 rw [Tryd.func8]
 rfl
theorem body9 : bodyOf Tryd.prog 9 = some (Tryd.f9,(Tryd.f9.body).get rfl) := by
 unfold bodyOf
 rw [Tryd.func9]
 rfl
theorem body11 : bodyOf Tryd.prog 11 = some (Tryd.f11,(Tryd.f11.body).get rfl) := by
 unfold bodyOf
 rw [Tryd.func11]
 rfl
theorem body21 : bodyOf Tryd.prog 21 = some (Tryd.f21,(Tryd.f21.body).get rfl) := by
 unfold bodyOf
 rw [Tryd.func21]
 rfl
theorem body22 : bodyOf Tryd.prog 22 = some (Tryd.f22,(Tryd.f22.body).get rfl) := by
 unfold bodyOf
 rw [Tryd.func22]
 rfl
theorem body23 : bodyOf Tryd.prog 23 = some (Tryd.f23,(Tryd.f23.body).get rfl) := by
 unfold bodyOf
 rw [Tryd.func23]
 rfl
theorem body24 : bodyOf Tryd.prog 24 = some (Tryd.f24,(Tryd.f24.body).get rfl) := by
 unfold bodyOf
 rw [Tryd.func24]
 rfl
end Go.Proofs.YtmnmfmghmenkkaaDoor
set_option linter.unusedSimpArgs false
set_option linter.unusedVariables false
set_option linter.unusedSectionVars false
namespace Go.Pur
open Go.Abs
def ak : Bool → Vl
 | true => .bor
 | false => .fz
section
variable {p : Pl} {b : Bool} {c : Ck} {n : Nat} {cs : List PV}
theorem rdv_ak : rdv p (.l (ak b) c n cs) = some (.l (ak b) c n cs) := by cases b <;> rfl
theorem notOwn_ak : notOwn (ak b) = true := by cases b <;> rfl
theorem prt_ak : prt (ak b) = ak b := by cases b <;> rfl
theorem loose_ak : loose (.l (ak b) c n cs) = false := by cases b <;> rfl
theorem rdv_own : rdv p (.l .own c n cs) = some (.l (.rf p) c n cs) := rfl
theorem rdv_fz : rdv p (.l .fz c n cs) = some (.l .fz c n cs) := rfl
theorem rdv_bor : rdv p (.l .bor c n cs) = some (.l .bor c n cs) := rfl
theorem rdv_rf {q : Pl} : rdv p (.l (.rf q) c n cs) = some (.l (.rf q) c n cs) := rfl
theorem rdv_pt {q : Pl} : rdv p (.l (.pt q) c n cs) = some (.l (.pt q) c n cs) := rfl
theorem rdv_v {x : Value} : rdv p (.v x) = some (.v x) := rfl
theorem rdv_a : rdv p (.a cs) = some (.a cs) := rfl
theorem rdv_t : rdv p (.t cs) = some (.t cs) := rfl
theorem rdv_r {k : Vl} : rdv p (.r k cs) = some (.r k cs) := rfl
theorem rdv_p {i o : Nat} : rdv p (.p i o) = some (.p i o) := rfl
theorem rdv_s {i o m d : Nat} : rdv p (.s i o m d) = some (.s i o m d) := rfl
theorem rdv_f {g : FuncId} {as0 bs : List PV} : rdv p (.f g as0 bs) = some (.f g as0 bs) := rfl
end
theorem get_nil {α : Type} {k : Nat} : (Tr.nil : Tr α).get k = none := rfl
theorem pvOf_int {k : IntKind} {n : Int} : pvOf (.int k n) = some (.v (.int k n)) := rfl
theorem pvOf_bool {b : Bool} : pvOf (.bool b) = some (.v (.bool b)) := rfl
theorem pvOf_str {s : ByteArray} : pvOf (.string s) = some (.v (.string s)) := rfl
theorem pvOf_nil : pvOf (.slice none 0 0) = some (.l .own .nz 0 []) := rfl
abbrev iv (n : Int) : PV := .v (.int .i64 n)
theorem blt_true {a b : Nat} (h : a < b) : Nat.blt a b = true := Nat.ble_eq_true_of_le h
theorem ble_true {a b : Nat} (h : a ≤ b) : Nat.ble a b = true := Nat.ble_eq_true_of_le h
theorem wrap64 {z : Int} (h1 : -9223372036854775808 ≤ z) (h2 : z < 9223372036854775808) : IntKind.i64.wrap z = z := by
 have e : IntKind.i64.wrap z = if z % 18446744073709551616 ≥ 9223372036854775808 then z % 18446744073709551616 - 18446744073709551616 else z % 18446744073709551616 := by
  unfold IntKind.wrap
  by_cases h : z % 18446744073709551616 ≥ 9223372036854775808
  ·rw [if_pos h]
   simp [IntKind.bits,IntKind.signed]
   omega
  ·rw [if_neg h]
   simp [IntKind.bits,IntKind.signed]
   omega
 rw [e]
 split <;> omega
theorem wrap_nat {n : Nat} (h : n < 1000000000000) : IntKind.i64.wrap ((n : Int) + 1) = ((n + 1 : Nat) : Int) := by
 rw [wrap64 (by omega) (by omega)]; omega
theorem intIn_nat {n i : Nat} {k : IntKind} (h : i < n) : intIn n (.int k (i : Int)) = some i := by
 show (match Nat.blt i n with | true => some i | false => none) = some i
 rw [blt_true h]
theorem goInt_eq {n : Int} : goInt n = .int .i64 n := rfl
section
variable {sz : TypeId → Option Nat} {base t : Nat} {hp : List (Option (List PV))}
theorem settle_v {x : Value} : settle sz base hp t (.v x) = some (.v x) := rfl
theorem settle_l {k : Vl} {c : Ck} {n : Nat} {cs : List PV} : settle sz base hp t (.l k c n cs) = some (.l k c n cs) := rfl
theorem settle_a {cs : List PV} : settle sz base hp t (.a cs) = some (.a cs) := rfl
theorem settle_p {b o : Nat} : settle sz base hp t (.p b o) = some (.p b o) := rfl
theorem settle_f {g : FuncId} {as0 bs : List PV} : settle sz base hp t (.f g as0 bs) = some (.f g as0 bs) := rfl
theorem noref_v {x : Value} : noref (.v x) = true := by simp [noref]
theorem noref_fz {c : Ck} {n : Nat} {cs : List PV} : noref (.l .fz c n cs) = true := by simp [noref]
theorem noref_a {cs : List PV} : noref (.a cs) = noref.norefs cs := by simp [noref]
theorem norefs_nil : noref.norefs [] = true := by simp [noref.norefs]
theorem norefs_cons {c : PV} {cs : List PV} : noref.norefs (c :: cs) = (noref c && noref.norefs cs) := by simp [noref.norefs]
end
section
variable {P : Program} {Y : Pol} {f : FuncId} {nt : Nat} {k : List Fm}
def presL (P : Program) (Y : Pol) (f : FuncId) (base : Nat) (rs : List ResultVar) (ts : List TypeId) (σ : St) : Option (PV × St × Bool) :=
 match rs,ts with
 | [r],[t] => match presOne P Y f σ r with
  | some (v,σ1) => match moved Y f v σ1 with
   | some (v',σ2) => match okDrop base v' with
    | true => match settle (elemSz P) base σ2.hp t v' with
     | some u => some (u,σ2,true)
     | none => none
    | false => some (v',σ2,false)
   | none => none
  | none => none
 | rs,ts => match Nat.beq rs.length 1 with
  | true => none
  | false => match presM P Y f rs σ with
   | some (vs,σ1) => match vs.all (okDrop base) with
    | true => match settles P base σ1.hp ts vs with
     | some us => some (.t us,σ1,true)
     | none => none
    | false => some (.t vs,σ1,false)
   | none => none
def ER (P : Program) (Y : Pol) (g : FuncId) (rs : List ResultVar) (ts : List TypeId) (base : Nat) (r : Option (AExit × St)) : Option (PV × List (Option (List PV)) × Option Nat) :=
 match r with
 | some (.normal,σ) | some (.ret,σ) => match presL P Y g base rs ts σ with
  | some (v,σ',drop) => some (pclose base drop v σ')
  | none => none
 | _ => none
theorem pres_eq {g : FuncId} {fn : Func} {base : Nat} {σ : St} : pres P Y g base fn σ = presL P Y g base fn.results.toList fn.resultTypes.toList σ := rfl
theorem E_bodyR {g : FuncId} {fn : Func} {c : Code} {a : List PV} {hp : List (Option (List PV))} (hb : bodyOf P g = some (fn,c)) (hk : (Nat.ble a.length fn.ntmps && keepsTo Y g a.length) = true) (hy : Y.yes g = false := by rfl) :
  E P Y g a hp = ER P Y g fn.results.toList fn.resultTypes.toList hp.length (EK P Y g fn.ntmps [.c c] ⟨[],pinit 0 a .nil,hp,none⟩) := by
 rw [E_body hb hk hy]
 unfold EF ER
 simp only [pres_eq]
 cases EK P Y g fn.ntmps [.c c] ⟨[],pinit 0 a .nil,hp,none⟩ with
 | none => rfl
 | some r =>
  obtain ⟨x,σ⟩ := r
  cases x with
  | normal => simp only []; cases presL P Y g hp.length fn.results.toList fn.resultTypes.toList σ <;> rfl
  | ret => simp only []; cases presL P Y g hp.length fn.results.toList fn.resultTypes.toList σ <;> rfl
  | _ => rfl
theorem E_bodyN {g : FuncId} {fn : Func} {c : Code} {a : List PV} {hp : List (Option (List PV))} (n : Nat) (hb : bodyOf P g = some (fn,c)) (h1 : Nat.ble n fn.ntmps = true) (h2 : keepsTo Y g n = true) (hn : a.length = n) (hy : Y.yes g = false := by rfl) :
  E P Y g a hp = ER P Y g fn.results.toList fn.resultTypes.toList hp.length (EK P Y g fn.ntmps [.c c] ⟨[],pinit 0 a .nil,hp,none⟩) := by
 refine E_bodyR hb ?_ hy
 rw [hn,h1,h2]
 rfl
theorem E_known {g : FuncId} {a : List PV} {hp : List (Option (List PV))} {r : PV × List (Option (List PV)) × Option Nat} (hy : Y.yes g = true) (hv : Y.ext g a hp = some r) : E P Y g a hp = some r := by
 rw [E_eq]
 unfold pcall
 rw [hy]
 simp only [hv]
theorem ER_ret {g : FuncId} {rs : List ResultVar} {tys : List TypeId} {base : Nat} {σ : St} : ER P Y g rs tys base (some (.ret,σ)) = match presL P Y g base rs tys σ with
  | some (v,σ',drop) => some (pclose base drop v σ')
  | none => none := rfl
theorem ER_normal {g : FuncId} {rs : List ResultVar} {tys : List TypeId} {base : Nat} {σ : St} : ER P Y g rs tys base (some (.normal,σ)) = match presL P Y g base rs tys σ with
  | some (v,σ',drop) => some (pclose base drop v σ')
  | none => none := rfl
theorem loop_ind {R : Option (PV × List (Option (List PV)) × Option Nat)} {g : FuncId} {rs : List ResultVar} {tys : List TypeId} {base : Nat} {b : Code} {σ0 : St} (Inv : Nat → St → Prop) {n0 : Nat} (h0 : Inv n0 σ0)
  (hs : ∀ n σ,Inv n σ → (∀ m σ',m < n → Inv m σ' → ER P Y g rs tys base (EK P Y f nt (.lp b :: k) σ') = R) → ER P Y g rs tys base (EK P Y f nt (.c b :: .lp b :: k) σ) = R) :
  ER P Y g rs tys base (EK P Y f nt (.lp b :: k) σ0) = R := by
 induction n0 using Nat.strongRecOn generalizing σ0 with
 | ind n ih =>
  rw [EK_lp]
  exact hs n σ0 h0 fun m σ' hm hi => ih m hm hi
end
section
variable {k : IntKind} {a b : Int}
theorem intBin_add : intBin .add k a b = some (.int k (k.wrap (a + b))) := rfl
theorem intBin_sub : intBin .sub k a b = some (.int k (k.wrap (a - b))) := rfl
theorem intBin_eql : intBin .eql k a b = some (.bool (decide (a = b))) := by simp [intBin]; rfl
theorem intBin_neq : intBin .neq k a b = some (.bool (!decide (a = b))) := by simp [intBin,bne]; rfl
theorem intBin_lss : intBin .lss k a b = some (.bool (decide (a < b))) := rfl
theorem intBin_leq : intBin .leq k a b = some (.bool (decide (a ≤ b))) := rfl
theorem intBin_gtr : intBin .gtr k a b = some (.bool (decide (b < a))) := rfl
theorem intBin_geq : intBin .geq k a b = some (.bool (decide (b ≤ a))) := rfl
end
theorem ble_lim24 {n : Nat} : Nat.ble n limit24 = decide (n ≤ 16777216) := by
 rw [Bool.eq_iff_iff]
 simp [limit24]
theorem nble {n m : Nat} : Nat.ble n m = decide (n ≤ m) := by
 rw [Bool.eq_iff_iff]
 simp
theorem nbeq {n m : Nat} : Nat.beq n m = decide (n = m) := by
 rw [Bool.eq_iff_iff]
 simp
section
variable {p : Pl}
theorem killV_v {x : Value} : killV p (.v x) = (.v x) := rfl
theorem killV_a {cs : List PV} : killV p (.a cs) = (.a cs) := rfl
theorem killV_t {cs : List PV} : killV p (.t cs) = (.t cs) := rfl
theorem killV_f {g : FuncId} {as0 bs : List PV} : killV p (.f g as0 bs) = (.f g as0 bs) := rfl
theorem killV_i {ty : TypeId} {x : PV} : killV p (.i ty x) = (.i ty x) := rfl
theorem killV_p {b o : Nat} : killV p (.p b o) = (.p b o) := rfl
theorem killV_s {b o n m : Nat} : killV p (.s b o n m) = (.s b o n m) := rfl
theorem killV_un  : killV p .un = .un := rfl
theorem killV_dead  : killV p .dead = .dead := rfl
theorem killV_lfz {c : Ck} {n : Nat} {cs : List PV} : killV p (.l .fz c n cs) = (.l .fz c n cs) := rfl
theorem killV_lbor {c : Ck} {n : Nat} {cs : List PV} : killV p (.l .bor c n cs) = (.l .bor c n cs) := rfl
theorem killV_lown {c : Ck} {n : Nat} {cs : List PV} : killV p (.l .own c n cs) = (.l .own c n cs) := rfl
theorem killV_rfz {cs : List PV} : killV p (.r .fz cs) = (.r .fz cs) := rfl
theorem killV_rbor {cs : List PV} : killV p (.r .bor cs) = (.r .bor cs) := rfl
theorem killV_lak {b : Bool} {c : Ck} {n : Nat} {cs : List PV} : killV p (.l (ak b) c n cs) = .l (ak b) c n cs := by cases b <;> rfl
theorem killV_rak {b : Bool} {cs : List PV} : killV p (.r (ak b) cs) = .r (ak b) cs := by cases b <;> rfl
theorem frzV_v {x : Value} : frzV p (.v x) = (.v x) := rfl
theorem frzV_a {cs : List PV} : frzV p (.a cs) = (.a cs) := rfl
theorem frzV_t {cs : List PV} : frzV p (.t cs) = (.t cs) := rfl
theorem frzV_f {g : FuncId} {as0 bs : List PV} : frzV p (.f g as0 bs) = (.f g as0 bs) := rfl
theorem frzV_i {ty : TypeId} {x : PV} : frzV p (.i ty x) = (.i ty x) := rfl
theorem frzV_p {b o : Nat} : frzV p (.p b o) = (.p b o) := rfl
theorem frzV_s {b o n m : Nat} : frzV p (.s b o n m) = (.s b o n m) := rfl
theorem frzV_un  : frzV p .un = .un := rfl
theorem frzV_dead  : frzV p .dead = .dead := rfl
theorem frzV_lfz {c : Ck} {n : Nat} {cs : List PV} : frzV p (.l .fz c n cs) = (.l .fz c n cs) := rfl
theorem frzV_lbor {c : Ck} {n : Nat} {cs : List PV} : frzV p (.l .bor c n cs) = (.l .bor c n cs) := rfl
theorem frzV_lown {c : Ck} {n : Nat} {cs : List PV} : frzV p (.l .own c n cs) = (.l .own c n cs) := rfl
theorem frzV_rfz {cs : List PV} : frzV p (.r .fz cs) = (.r .fz cs) := rfl
theorem frzV_rbor {cs : List PV} : frzV p (.r .bor cs) = (.r .bor cs) := rfl
theorem frzV_lak {b : Bool} {c : Ck} {n : Nat} {cs : List PV} : frzV p (.l (ak b) c n cs) = .l (ak b) c n cs := by cases b <;> rfl
theorem frzV_rak {b : Bool} {cs : List PV} : frzV p (.r (ak b) cs) = .r (ak b) cs := by cases b <;> rfl
theorem killCell_v {x : Value} : killCell (.v x) = (.v x) := rfl
theorem killCell_a {cs : List PV} : killCell (.a cs) = (.a cs) := rfl
theorem killCell_t {cs : List PV} : killCell (.t cs) = (.t cs) := rfl
theorem killCell_f {g : FuncId} {as0 bs : List PV} : killCell (.f g as0 bs) = (.f g as0 bs) := rfl
theorem killCell_i {ty : TypeId} {x : PV} : killCell (.i ty x) = (.i ty x) := rfl
theorem killCell_p {b o : Nat} : killCell (.p b o) = (.p b o) := rfl
theorem killCell_s {b o n m : Nat} : killCell (.s b o n m) = (.s b o n m) := rfl
theorem killCell_un  : killCell .un = .un := rfl
theorem killCell_dead  : killCell .dead = .dead := rfl
theorem killCell_lfz {c : Ck} {n : Nat} {cs : List PV} : killCell (.l .fz c n cs) = (.l .fz c n cs) := rfl
theorem killCell_lbor {c : Ck} {n : Nat} {cs : List PV} : killCell (.l .bor c n cs) = (.l .bor c n cs) := rfl
theorem killCell_lown {c : Ck} {n : Nat} {cs : List PV} : killCell (.l .own c n cs) = (.l .own c n cs) := rfl
theorem killCell_rfz {cs : List PV} : killCell (.r .fz cs) = (.r .fz cs) := rfl
theorem killCell_rbor {cs : List PV} : killCell (.r .bor cs) = (.r .bor cs) := rfl
theorem killCell_lak {b : Bool} {c : Ck} {n : Nat} {cs : List PV} : killCell (.l (ak b) c n cs) = .l (ak b) c n cs := by cases b <;> rfl
theorem killCell_rak {b : Bool} {cs : List PV} : killCell (.r (ak b) cs) = .r (ak b) cs := by cases b <;> rfl
theorem killV_lrf {q : Pl} {c : Ck} {n : Nat} {cs : List PV} : killV p (.l (.rf q) c n cs) = match plEq q p with
  | true => .dead
  | false => .l (.rf q) c n cs := rfl
theorem killV_lpt {q : Pl} {c : Ck} {n : Nat} {cs : List PV} : killV p (.l (.pt q) c n cs) = match plEq q p with
  | true => .dead
  | false => .l (.pt q) c n cs := rfl
theorem killV_rpt {q : Pl} {cs : List PV} : killV p (.r (.pt q) cs) = match plEq q p with
  | true => .dead
  | false => .r (.pt q) cs := rfl
theorem frzV_lrf {q : Pl} {c : Ck} {n : Nat} {cs : List PV} : frzV p (.l (.rf q) c n cs) = match plEq q p with
  | true => .l .fz c n cs
  | false => .l (.rf q) c n cs := rfl
theorem frzV_lpt {q : Pl} {c : Ck} {n : Nat} {cs : List PV} : frzV p (.l (.pt q) c n cs) = match plEq q p with
  | true => .l .fz c n cs
  | false => .l (.pt q) c n cs := rfl
theorem frzV_rpt {q : Pl} {cs : List PV} : frzV p (.r (.pt q) cs) = match plEq q p with
  | true => .r .fz cs
  | false => .r (.pt q) cs := rfl
theorem killCell_lrft {t : Nat} {c : Ck} {n : Nat} {cs : List PV} : killCell (.l (.rf (.tmp t)) c n cs) = .l (.rf (.tmp t)) c n cs := rfl
theorem killCell_lptt {t : Nat} {c : Ck} {n : Nat} {cs : List PV} : killCell (.l (.pt (.tmp t)) c n cs) = .l (.pt (.tmp t)) c n cs := rfl
theorem killCell_rptt {t : Nat} {cs : List PV} : killCell (.r (.pt (.tmp t)) cs) = .r (.pt (.tmp t)) cs := rfl
theorem killCell_lrfc {a i : Nat} {c : Ck} {n : Nat} {cs : List PV} : killCell (.l (.rf (.cell a i)) c n cs) = .dead := rfl
theorem killCell_lptc {a i : Nat} {c : Ck} {n : Nat} {cs : List PV} : killCell (.l (.pt (.cell a i)) c n cs) = .dead := rfl
theorem killCell_rptc {a i : Nat} {cs : List PV} : killCell (.r (.pt (.cell a i)) cs) = .dead := rfl
theorem argv_lak {Y : Pol} {f : FuncId} {b : Bool} {c : Ck} {n : Nat} {cs : List PV} {σ : St} : argv Y f (.l (ak b) c n cs) σ = some (.l (ak b) c n cs,σ,none) := by cases b <;> rfl
theorem argv_rak {Y : Pol} {f : FuncId} {b : Bool} {cs : List PV} {σ : St} : argv Y f (.r (ak b) cs) σ = some (.r (ak b) cs,σ,none) := by cases b <;> rfl
theorem argv_v {Y : Pol} {f : FuncId} {x : Value} {σ : St} : argv Y f (.v x) σ = some (.v x,σ,none) := rfl
theorem argv_a {Y : Pol} {f : FuncId} {cs : List PV} {σ : St} : argv Y f (.a cs) σ = some (.a cs,σ,none) := rfl
theorem argv_p {Y : Pol} {f : FuncId} {b o : Nat} {σ : St} : argv Y f (.p b o) σ = some (.p b o,σ,none) := rfl
theorem argv_f {Y : Pol} {f : FuncId} {g : FuncId} {as0 bs : List PV} {σ : St} : argv Y f (.f g as0 bs) σ = some (.f g as0 bs,σ,none) := rfl
theorem argv_fz {Y : Pol} {f : FuncId} {c : Ck} {n : Nat} {cs : List PV} {σ : St} : argv Y f (.l .fz c n cs) σ = some (.l .fz c n cs,σ,none) := rfl
theorem argv_bor {Y : Pol} {f : FuncId} {c : Ck} {n : Nat} {cs : List PV} {σ : St} : argv Y f (.l .bor c n cs) σ = some (.l .bor c n cs,σ,none) := rfl
theorem argv_rf {Y : Pol} {f : FuncId} {t : Nat} {c : Ck} {n : Nat} {cs : List PV} {σ : St} : argv Y f (.l (.rf (.tmp t)) c n cs) σ = match Y.keep f t with
  | true => some (.l .bor c n cs,σ,none)
  | false => stor Y f (.l (.rf (.tmp t)) c n cs) σ := rfl
theorem argv_pt {Y : Pol} {f : FuncId} {t : Nat} {c : Ck} {n : Nat} {cs : List PV} {σ : St} : argv Y f (.l (.pt (.tmp t)) c n cs) σ = some (.l .bor c n cs,σ,none) := rfl
theorem argv_rc {Y : Pol} {f : FuncId} {a i : Nat} {c : Ck} {n : Nat} {cs : List PV} {σ : St} : argv Y f (.l (.rf (.cell a i)) c n cs) σ = stor Y f (.l (.rf (.cell a i)) c n cs) σ := rfl
theorem argv_own {Y : Pol} {f : FuncId} {c : Ck} {n : Nat} {cs : List PV} {σ : St} : argv Y f (.l .own c n cs) σ = stor Y f (.l .own c n cs) σ := rfl
theorem mayTurn_none : mayTurn none = true := rfl
end
section
variable {p : Pl} {es : List MapEntry} {c d : Nat} {ls : List (Nat × PV)}
theorem rdv_mown : rdv p (.m .own es c) = some (.m (.rf p) es c) := rfl
theorem rdv_mfz : rdv p (.m .fz es c) = some (.m .fz es c) := rfl
theorem rdv_mbor : rdv p (.m .bor es c) = some (.m .bor es c) := rfl
theorem rdv_mrf {q : Pl} : rdv p (.m (.rf q) es c) = some (.m (.rf q) es c) := rfl
theorem killV_mown : killV p (.m .own es c) = .m .own es c := rfl
theorem killV_mfz : killV p (.m .fz es c) = .m .fz es c := rfl
theorem killV_mbor : killV p (.m .bor es c) = .m .bor es c := rfl
theorem killV_mrf {q : Pl} : killV p (.m (.rf q) es c) = match plEq q p with
  | true => .dead
  | false => .m (.rf q) es c := rfl
theorem frzV_mown : frzV p (.m .own es c) = .m .own es c := rfl
theorem frzV_mfz : frzV p (.m .fz es c) = .m .fz es c := rfl
theorem frzV_mbor : frzV p (.m .bor es c) = .m .bor es c := rfl
theorem frzV_mrf {q : Pl} : frzV p (.m (.rf q) es c) = match plEq q p with
  | true => .m .fz es c
  | false => .m (.rf q) es c := rfl
theorem killCell_mown : killCell (.m .own es c) = .m .own es c := rfl
theorem killCell_mfz : killCell (.m .fz es c) = .m .fz es c := rfl
theorem killCell_mbor : killCell (.m .bor es c) = .m .bor es c := rfl
theorem killCell_mrf {t : Nat} : killCell (.m (.rf (.tmp t)) es c) = .m (.rf (.tmp t)) es c := rfl
theorem argv_mfz {Y : Pol} {f : FuncId} {σ : St} : argv Y f (.m .fz es c) σ = some (.m .fz es c,σ,none) := rfl
theorem argv_mbor {Y : Pol} {f : FuncId} {σ : St} : argv Y f (.m .bor es c) σ = some (.m .bor es c,σ,none) := rfl
theorem argv_mrf {Y : Pol} {f : FuncId} {t : Nat} {σ : St} : argv Y f (.m (.rf (.tmp t)) es c) σ = match Y.keep f t with
  | true => some (.m .bor es c,σ,none)
  | false => stor Y f (.m (.rf (.tmp t)) es c) σ := rfl
theorem settle_m {sz : TypeId → Option Nat} {base t : Nat} {hp : List (Option (List PV))} {k : Vl} : settle sz base hp t (.m k es c) = some (.m k es c) := rfl
theorem kls_v {x : Value} : kls d (.v x) ls = ls := rfl
theorem kls_l {k : Vl} {c : Ck} {n : Nat} {cs : List PV} : kls d (.l k c n cs) ls = ls := rfl
theorem kls_a {cs : List PV} : kls d (.a cs) ls = ls := rfl
theorem kls_t {cs : List PV} : kls d (.t cs) ls = ls := rfl
theorem kls_r {k : Vl} {cs : List PV} : kls d (.r k cs) ls = ls := rfl
theorem kls_p {b o : Nat} : kls d (.p b o) ls = ls := rfl
theorem kls_s {b o n m : Nat} : kls d (.s b o n m) ls = ls := rfl
theorem kls_f {g : FuncId} {as0 bs : List PV} : kls d (.f g as0 bs) ls = ls := rfl
theorem kls_i {ty : TypeId} {x : PV} : kls d (.i ty x) ls = ls := rfl
theorem kls_it {s : ByteArray} {pos : Nat} : kls d (.it s pos) ls = ls := rfl
theorem kls_un : kls d .un ls = ls := rfl
theorem kls_dead : kls d .dead ls = ls := rfl
theorem kls_mown : kls d (.m .own es c) ls = mapL (killV (.tmp d)) ls := rfl
theorem kls_mrf {q : Pl} : kls d (.m (.rf q) es c) ls = ls := rfl
theorem kls_mbor : kls d (.m .bor es c) ls = ls := rfl
theorem kls_mfz : kls d (.m .fz es c) ls = ls := rfl
end
section
variable {b : Nat}
theorem refsTo_v {x : Value} : refsTo b (.v x) = true := by simp [refsTo]
theorem refsTo_l {k : Vl} {c : Ck} {n : Nat} {cs : List PV} : refsTo b (.l k c n cs) = true := by simp [refsTo]
theorem refsTo_p {d o : Nat} : refsTo b (.p d o) = Nat.ble d b := by simp [refsTo]
theorem refsTo_s {d o n m : Nat} : refsTo b (.s d o n m) = Nat.ble d b := by simp [refsTo]
theorem refsTo_a {cs : List PV} : refsTo b (.a cs) = refsTo.go b cs := by simp [refsTo]
theorem refsTo_dead : refsTo b .dead = true := by simp [refsTo]
theorem refsTo_nil : refsTo.go b [] = true := by simp [refsTo.go]
theorem refsTo_cons {c : PV} {cs : List PV} : refsTo.go b (c :: cs) = (refsTo b c && refsTo.go b cs) := by simp [refsTo.go]
theorem isOwn_lak {b : Bool} {c : Ck} {n : Nat} {cs : List PV} : isOwn (.l (ak b) c n cs) = false := by cases b <;> rfl
theorem ownFz_lak {b : Bool} {c : Ck} {n : Nat} {cs : List PV} : ownFz (.l (ak b) c n cs) = .l (ak b) c n cs := by cases b <;> rfl
end
theorem notOwn_fz : notOwn .fz = true := rfl
theorem notOwn_bor : notOwn .bor = true := rfl
theorem notOwn_own : notOwn .own = false := rfl
theorem notOwn_rf {p : Pl} : notOwn (.rf p) = true := rfl
theorem notOwn_pt {p : Pl} : notOwn (.pt p) = true := rfl
theorem prt_fz : prt .fz = .fz := rfl
theorem prt_bor : prt .bor = .bor := rfl
theorem prt_own : prt .own = .own := rfl
theorem prt_rf {p : Pl} : prt (.rf p) = .pt p := rfl
theorem prt_pt {p : Pl} : prt (.pt p) = .pt p := rfl
end Go.Pur
namespace Go.Pur
open Go.Abs
def andI (k : IntKind) (m n : Int) : Int := k.wrap (BitVec.ofInt k.bits m &&& BitVec.ofInt k.bits n).toNat
def orI (k : IntKind) (m n : Int) : Int := k.wrap (BitVec.ofInt k.bits m ||| BitVec.ofInt k.bits n).toNat
def andNotI (k : IntKind) (m n : Int) : Int := k.wrap (BitVec.ofInt k.bits m &&& ~~~ BitVec.ofInt k.bits n).toNat
def shrI (k : IntKind) (m n : Int) : Int := m.fdiv (2 ^ min n.toNat k.bits)
def shlI (k : IntKind) (m n : Int) : Int := k.wrap (m * 2 ^ min n.toNat k.bits)
def mulI (k : IntKind) (m n : Int) : Int := k.wrap (m * n)
section
variable {P : Program} {t : TypeId} {x y : Operand}
theorem prun_not {b : Bool} : prunP P (Op.unary .not (.bool b)) = some (.bool (!b)) := rfl
theorem prun_neg {n : Int} {k : IntKind} : prunP P (Op.unary .neg (.int k n)) = some (.int k (k.wrap (0 - n))) := rfl
theorem abinS_of {op : BinOp} {k j : IntKind} {m n : Int} {r : Value} (h0 : intFast op (.int k m) (.int j n) = none) (h1 : prun P (do eqGuard op t x y (.int k m) (.int j n); binOp op t (.int k m) (.int j n)) = some r) (h2 : plain r = true) : abin P op t x y (.int k m) (.int j n) = some r := by
 have h3 : abinS P op t x y (.int k m) (.int j n) = prunP P (do eqGuard op t x y (.int k m) (.int j n); binOp op t (.int k m) (.int j n)) := rfl
 unfold abin
 rw [h0]
 simp only []
 rw [h3]
 unfold prunP
 rw [h1]
 simp only []
 rw [h2]
theorem fast_none {op : BinOp} {k j : IntKind} {m n : Int} (h : ∀ k m n,intBin op k m n = none) : intFast op (.int k m) (.int j n) = none := by
 unfold intFast
 simp only [h]
 split <;> rfl
theorem abin_and {m n : Int} {k : IntKind} : abin P .and t x y (.int k m) (.int k n) = some (.int k (andI k m n)) := abinS_of (fast_none fun _ _ _ => rfl) (by simp [eqGuard,binOp]; rfl) rfl
theorem abin_or {m n : Int} {k : IntKind} : abin P .or t x y (.int k m) (.int k n) = some (.int k (orI k m n)) := abinS_of (fast_none fun _ _ _ => rfl) (by simp [eqGuard,binOp]; rfl) rfl
theorem abin_andNot {m n : Int} {k : IntKind} : abin P .andNot t x y (.int k m) (.int k n) = some (.int k (andNotI k m n)) := abinS_of (fast_none fun _ _ _ => rfl) (by simp [eqGuard,binOp]; rfl) rfl
theorem abin_mul {m n : Int} {k : IntKind} : abin P .mul t x y (.int k m) (.int k n) = some (.int k (mulI k m n)) := abinS_of (fast_none fun _ _ _ => rfl) (by simp [eqGuard,binOp]; rfl) rfl
theorem abin_shr {m n : Int} {k j : IntKind} (h : 0 ≤ n) : abin P .shr t x y (.int k m) (.int j n) = some (.int k (shrI k m n)) := by
 obtain ⟨n,rfl⟩ := Int.eq_ofNat_of_zero_le h
 exact abinS_of (fast_none fun _ _ _ => rfl) rfl rfl
theorem abin_shl {m n : Int} {k j : IntKind} (h : 0 ≤ n) : abin P .shl t x y (.int k m) (.int j n) = some (.int k (shlI k m n)) := by
 obtain ⟨n,rfl⟩ := Int.eq_ofNat_of_zero_le h
 exact abinS_of (fast_none fun _ _ _ => rfl) rfl rfl
theorem abin_add {m n : Int} {k : IntKind} : abin P .add t x y (.int k m) (.int k n) = some (.int k (k.wrap (m + n))) := by
 unfold abin intFast
 simp [intBin_add]
theorem abin_sub {m n : Int} {k : IntKind} : abin P .sub t x y (.int k m) (.int k n) = some (.int k (k.wrap (m - n))) := by
 unfold abin intFast
 simp [intBin_sub]
theorem abin_eql {m n : Int} {k : IntKind} : abin P .eql t x y (.int k m) (.int k n) = some (.bool (decide (m = n))) := by
 unfold abin intFast
 simp [intBin_eql]
theorem abin_neq {m n : Int} {k : IntKind} : abin P .neq t x y (.int k m) (.int k n) = some (.bool (!decide (m = n))) := by
 unfold abin intFast
 simp [intBin_neq]
theorem abin_lss {m n : Int} {k : IntKind} : abin P .lss t x y (.int k m) (.int k n) = some (.bool (decide (m < n))) := by
 unfold abin intFast
 simp [intBin_lss]
theorem abin_leq {m n : Int} {k : IntKind} : abin P .leq t x y (.int k m) (.int k n) = some (.bool (decide (m ≤ n))) := by
 unfold abin intFast
 simp [intBin_leq]
theorem abin_gtr {m n : Int} {k : IntKind} : abin P .gtr t x y (.int k m) (.int k n) = some (.bool (decide (n < m))) := by
 unfold abin intFast
 simp [intBin_gtr]
theorem abin_geq {m n : Int} {k : IntKind} : abin P .geq t x y (.int k m) (.int k n) = some (.bool (decide (n ≤ m))) := by
 unfold abin intFast
 simp [intBin_geq]
end
theorem noMaker_eq {ops : Array Oper} {q : Nat} : noMaker ops q = ops.toList.zipIdx.all fun (o,i) => decide (q ≤ i) || decide (kindOf o.op = 0) := by
 unfold noMaker
 congr 1
 funext x
 obtain ⟨o,i⟩ := x
 simp only [nble,nbeq]
section
variable {α : Type} {l r : List α} {k : Nat} {v : α}
theorem gAt : (l ++ r)[l.length + k]? = r[k]? := by rw [List.getElem?_append_right (by omega)]; congr 1; omega
theorem gAt0 : (l ++ r)[l.length]? = r[0]? := gAt (k := 0)
theorem sAt : (l ++ r).set (l.length + k) v = l ++ r.set k v := by rw [List.set_append,if_neg (by omega),Nat.add_sub_cancel_left]
theorem sAt0 : (l ++ r).set l.length v = l ++ r.set 0 v := sAt (k := 0)
end
end Go.Pur
namespace Go.Pur
open Go.Abs Go.RowKit
inductive CellIn (W : World) : Value → PV → Prop where
 | plain (x : Value) (hp : Abs.plain x = true) (hn : ∀ n c,x ≠ .slice none n c) : CellIn W x (.v x)
 | nil : CellIn W (.slice none 0 0) (.l .fz .any 0 [])
 | slice (a : Addr) (n cap : Nat) (xs : List Value) (hn : n ≤ cap) (hc : n < unkCap) (h0 : n = 0 → xs = []) (h1 : n ≠ 0 → xs ≠ []) (hx : ∀ k v,xs[k]? = some v → W.cell? (a.add k) = some v ∧ Abs.plain v = true ∧ ∀ n c,v ≠ .slice none n c) : CellIn W (.slice (some a) n cap) (.l .fz .any n (xs.map .v))
inductive CellsIn (W : World) : List Value → List PV → Prop where
 | nil : CellsIn W [] []
 | cons (v : Value) (u : PV) (vs : List Value) (us : List PV) (h : CellIn W v u) (ht : CellsIn W vs us) : CellsIn W (v :: vs) (u :: us)
inductive ArgIn (W : World) : Value → PV → Prop where
 | one (v : Value) (u : PV) (h : CellIn W v u) : ArgIn W v u
 | agg (cs : Array Value) (us : List PV) (h : CellsIn W cs.toList us) : ArgIn W (.agg cs) (.a us)
def C0 (P : Program) (n : Nat) : Ctx := ⟨P.cellsOf,fun _ => none,fun id => id < n,fun id => id < n,fun _ => none⟩
section
variable {P : Program} {W : World} {Y : Pol}
theorem cell_in {v : Value} {u : PV} (h : CellIn W v u) {G : List Blk} {GL : List Abs.Loc} (hG : G ≠ []) (hlen : G.length = GL.length) :
  ∃ (l : List Blk) (ls : List Abs.Loc) (x : Value),l.length = ls.length ∧ (∀ (i : Nat) (B : Blk) (L : Abs.Loc),l[i]? = some B → ls[i]? = some L → Lies W B L) ∧
   ∀ l2 ls2,VRel (mapOf (GL ++ ls ++ ls2)) x v ∧ ∀ π,VR (C0 P (G ++ l ++ l2).length) (heapOf (G ++ l ++ l2)) π u x := by
 cases h with
 | plain x hp hn => exact ⟨[],[],v,rfl,by simp,fun l2 ls2 => ⟨.plain _ hp,fun π => .v _ _ hp hn⟩⟩
 | nil => exact ⟨[],[],.slice none 0 0,rfl,by simp,fun l2 ls2 => ⟨.plain _ rfl,fun π => .nil _ _ _⟩⟩
 | slice a n cap xs hn hc h0 h1 hx =>
  by_cases hn0 : n = 0
  ·have := h0 hn0
   subst this; subst hn0
   have hlt : 0 < G.length := List.length_pos_iff.2 hG
   refine ⟨[],[],.slice (some ⟨0,0,none⟩) 0 roCap,rfl,by simp,fun l2 ls2 => ⟨.ro _ _ _ _ 0 hn (fun h => (h rfl).elim),fun π => ?_⟩⟩
   have hb : (heapOf (G ++ [] ++ l2)).get 0 = some G[0] := by
    rw [heapOf_get,List.append_nil,List.getElem?_append_left hlt,List.getElem?_eq_getElem hlt]
   exact .lst _ _ _ _ _ _ _ _ hb rfl (by show 0 < _; simp only [List.length_append]; omega) hc ⟨fun h => by (cases h),fun h => by (cases h),fun h => by (exact absurd h (by decide)),.inr (.inr (Nat.le_refl _)),fun h => by (cases h),by simp⟩ (by simp) (fun i hi => by (simp at hi))
  ·have hne := h1 hn0
   obtain ⟨v0,r,hvr⟩ := List.exists_cons_of_ne_nil hne
   have hc0 := (hx 0 v0 (by rw [hvr]; rfl)).1
   have hsp : a.spot = none := by
    unfold World.cell? at hc0
    split at hc0
    ·split at hc0
     ·cases hc0
     ·rename_i hs; simpa [Addr.add] using hs
    ·cases hc0
   have hadd : ∀ k,a.add k = ⟨a.block,a.off + k,none⟩ := fun k => by
    cases a with
    | mk b o s => simp only at hsp; subst hsp; exact WideShapes.add_plain b o k
   refine ⟨[⟨xs,0,false,false⟩],[⟨a.block,a.off,0⟩],.slice (some ⟨G.length,0,none⟩) n roCap,rfl, ?_,fun l2 ls2 => ⟨.ro _ _ _ _ 0 hn (fun _ => ⟨⟨a.block,a.off,0⟩, ?_,rfl, ?_,fun h => absurd rfl h⟩),fun π => ?_⟩⟩
   ·intro i B L hB hL
    cases i with
    | succ i => simp at hB
    | zero =>
     simp at hB hL
     subst hB; subst hL
     refine ⟨rfl,rfl, ?_,.inl hne,fun k v hk => ?_⟩
     ·rw [hadd] at hc0
      have := block_lt_of_cell hc0
      exact this
     ·obtain ⟨a1,a2,_⟩ := hx k v hk
      rw [hadd] at a1
      exact ⟨a1,a2⟩
   ·unfold mapOf
    rw [List.append_assoc,List.getElem?_append_right (by simp [hlen])]
    simp [hlen]
   ·cases a with
    | mk b o s => simp at hsp; subst hsp; simp
   ·have hb : (heapOf (G ++ [⟨xs,0,false,false⟩] ++ l2)).get G.length = some ⟨xs,0,false,false⟩ := by
     rw [heapOf_get,List.append_assoc,List.getElem?_append_right (Nat.le_refl _)]
     simp
    refine .lst _ _ _ _ _ _ _ _ hb rfl (by show G.length < _; simp only [List.length_append,List.length_cons]; omega) hc ⟨fun h => by (cases h),fun h => by (cases h),fun h => by (exact absurd h (by decide)),.inr (.inr (Nat.le_refl _)),fun h => by (cases h), ?_⟩ (by simp) (fun i hi => ?_)
    ·intro v hv
     obtain ⟨y,_,rfl⟩ := List.mem_map.1 hv
     rfl
    ·have hi' : i < xs.length := by simpa using hi
     have e : xs[i]? = some xs[i] := List.getElem?_eq_getElem hi'
     obtain ⟨_,p1,p2⟩ := hx i _ e
     simp [List.getD_eq_getElem?_getD,e]
     exact .v _ _ p1 p2
theorem cells_in {vs : List Value} {us : List PV} (h : CellsIn W vs us) : ∀ {G : List Blk} {GL : List Abs.Loc},G ≠ [] → G.length = GL.length →
  ∃ (l : List Blk) (ls : List Abs.Loc) (xs : List Value),l.length = ls.length ∧ (∀ (i : Nat) (B : Blk) (L : Abs.Loc),l[i]? = some B → ls[i]? = some L → Lies W B L) ∧
   ∀ l2 ls2,LRel (mapOf (GL ++ ls ++ ls2)) xs vs ∧ ∀ π,LR (C0 P (G ++ l ++ l2).length) (heapOf (G ++ l ++ l2)) π us xs := by
 induction h with
 | nil => exact fun {G GL} hG hlen => ⟨[],[],[],rfl,by simp,fun l2 ls2 => ⟨LRel.nil _,fun π => LR.nil _ _ _⟩⟩
 | cons v u vs us h ht ih =>
  intro G GL hG hlen
  obtain ⟨l,ls,x,a1,a2,a3⟩ := cell_in (P := P) h hG hlen
  obtain ⟨k,ks,xs,b1,b2,b3⟩ := ih (G := G ++ l) (GL := GL ++ ls) (by simp [hG]) (by simp [hlen,a1])
  refine ⟨l ++ k,ls ++ ks,x :: xs,by simp [a1,b1],fun i B L hB hL => ?_,fun l2 ls2 => ?_⟩
  ·by_cases hi : i < l.length
   ·rw [List.getElem?_append_left hi] at hB
    rw [List.getElem?_append_left (a1 ▸ hi)] at hL
    exact a2 i B L hB hL
   ·rw [List.getElem?_append_right (by omega)] at hB
    rw [List.getElem?_append_right (by omega),← a1] at hL
    exact b2 _ B L hB hL
  ·obtain ⟨c1,c2⟩ := a3 (k ++ l2) (ks ++ ls2)
   obtain ⟨d1,d2⟩ := b3 l2 ls2
   simp only [List.append_assoc] at c1 c2 d1 d2 ⊢
   exact ⟨LRel.cons c1 d1,fun π => LR.cons (c2 π) (d2 π)⟩
inductive ArgsIn (W : World) : List Value → List PV → Prop where
 | nil : ArgsIn W [] []
 | cons (v : Value) (u : PV) (vs : List Value) (us : List PV) (h : ArgIn W v u) (ht : ArgsIn W vs us) : ArgsIn W (v :: vs) (u :: us)
theorem arg_in {v : Value} {u : PV} (h : ArgIn W v u) {G : List Blk} {GL : List Abs.Loc} (hG : G ≠ []) (hlen : G.length = GL.length) :
  loose u = false ∧ ∃ (l : List Blk) (ls : List Abs.Loc) (x : Value),l.length = ls.length ∧ (∀ (i : Nat) (B : Blk) (L : Abs.Loc),l[i]? = some B → ls[i]? = some L → Lies W B L) ∧
   ∀ l2 ls2,VRel (mapOf (GL ++ ls ++ ls2)) x v ∧ ∀ π,VR (C0 P (G ++ l ++ l2).length) (heapOf (G ++ l ++ l2)) π u x := by
 cases h with
 | one _ _ h => exact ⟨by cases h <;> rfl,cell_in h hG hlen⟩
 | agg cs us h =>
  refine ⟨rfl, ?_⟩
  obtain ⟨l,ls,xs,a1,a2,a3⟩ := cells_in (P := P) h hG hlen
  refine ⟨l,ls,.agg xs.toArray,a1,a2,fun l2 ls2 => ?_⟩
  obtain ⟨b1,b2⟩ := a3 l2 ls2
  exact ⟨by simpa using VRel.agg_of b1,fun π => VR.agg_of (b2 none)⟩
theorem args_in {vs : List Value} {us : List PV} (h : ArgsIn W vs us) : ∀ {G : List Blk} {GL : List Abs.Loc},G ≠ [] → G.length = GL.length →
  ∃ (l : List Blk) (ls : List Abs.Loc) (xs : List Value),l.length = ls.length ∧ (∀ (i : Nat) (B : Blk) (L : Abs.Loc),l[i]? = some B → ls[i]? = some L → Lies W B L) ∧
   ∀ l2 ls2,LRel (mapOf (GL ++ ls ++ ls2)) xs vs ∧ LP1 (C0 P (G ++ l ++ l2).length) (heapOf (G ++ l ++ l2)) us xs := by
 induction h with
 | nil => exact fun {G GL} hG hlen => ⟨[],[],[],rfl,by simp,fun l2 ls2 => ⟨LRel.nil _,trivial⟩⟩
 | cons v u vs us h ht ih =>
  intro G GL hG hlen
  obtain ⟨hlo,l,ls,x,a1,a2,a3⟩ := arg_in (P := P) h hG hlen
  obtain ⟨k,ks,xs,b1,b2,b3⟩ := ih (G := G ++ l) (GL := GL ++ ls) (by simp [hG]) (by simp [hlen,a1])
  refine ⟨l ++ k,ls ++ ks,x :: xs,by simp [a1,b1],fun i B L hB hL => ?_,fun l2 ls2 => ?_⟩
  ·by_cases hi : i < l.length
   ·rw [List.getElem?_append_left hi] at hB
    rw [List.getElem?_append_left (a1 ▸ hi)] at hL
    exact a2 i B L hB hL
   ·rw [List.getElem?_append_right (by omega)] at hB
    rw [List.getElem?_append_right (by omega),← a1] at hL
    exact b2 _ B L hB hL
  ·obtain ⟨c1,c2⟩ := a3 (k ++ l2) (ks ++ ls2)
   obtain ⟨d1,d2⟩ := b3 l2 ls2
   simp only [List.append_assoc] at c1 c2 d1 d2 ⊢
   exact ⟨LRel.cons c1 d1,⟨fun d => c2 _,hlo⟩,d2⟩
end
end Go.Pur
namespace Go.Pur
open Go.Abs Go.RowKit Go.ChangeShapes Go.WideShapes
section
variable {H : Type} {enc : TypeId × Value → H} {P : Program} {W : World} {held : Bool}
def intOf : Value → Int
 | .int _ n => n
 | _ => 0
end
end Go.Pur
set_option linter.unusedSimpArgs false
set_option linter.unusedVariables false
set_option linter.unusedSectionVars false
namespace Go.Pur
open Go.Abs Go.RowKit
inductive KA where
 | p (v : Value)
 | l (cs : List Value)
 | m (es : List MapEntry) (c : Nat)
inductive KR where
 | p (v : Value)
 | l (cs : List Value)
 | e (ty : TypeId)
 | ll (css : List (List Value))
def paArg : PV → Option KA
 | .v x => some (.p x)
 | .l _ _ n cs => match pplains cs,Nat.beq n cs.length with
  | some vs,true => some (.l vs)
  | _,_ => none
 | .a cs => match pplains cs with
  | some vs => some (.p (.agg vs.toArray))
  | none => none
 | .m _ es c => some (.m es c)
 | _ => none
def paArgs : List PV → Option (List KA)
 | [] => some []
 | v :: l => match paArg v,paArgs l with
  | some a,some as0 => some (a :: as0)
  | _,_ => none
def aaArg (h : AHeap) : Value → Option KA
 | .slice none n c => match n,c with
  | 0,0 => some (.l [])
  | _,_ => none
 | .slice (some a) n c => match Nat.ble unkCap c || Nat.ble n c with
  | true => match n with
   | 0 => some (.l [])
   | k + 1 => match cellsAt h a (k + 1) with
    | some cs => match cs.all plain with
     | true => some (.l cs)
     | false => none
    | none => none
  | false => none
 | .map (some a) => match h.getIt a with
  | some (.mp es c) => some (.m es c)
  | _ => none
 | v => match plainV v with
  | true => some (.p v)
  | false => none
def aaArgs (h : AHeap) : List Value → Option (List KA)
 | [] => some []
 | v :: l => match aaArg h v,aaArgs h l with
  | some a,some as0 => some (a :: as0)
  | _,_ => none
def okP : Value → Bool
 | .int _ _ | .bool _ | .string _ | .nilIface => true
 | _ => false
theorem okP_plain {v : Value} (h : okP v = true) : plain v = true := by
 cases v <;> first | rfl | (cases h; done)
def okL (cs : List Value) : Bool := cs.all okP && Nat.blt cs.length unkCap
def okR : KR → Bool
 | .p v => okP v
 | .l cs => cs.all okP && Nat.blt cs.length unkCap
 | .e _ => true
 | .ll css => css.all okL && Nat.blt css.length unkCap
def pIn (cs : List Value) : PV := .l .fz .any cs.length (cs.map .v)
def aIn : List (List Value) → AHeap → List Value × AHeap
 | [],h => ([],h)
 | cs :: r,h => (.slice (some ⟨h.next,0,none⟩) cs.length roCap :: (aIn r (h.alloc ⟨cs,0,false,false⟩)).1,(aIn r (h.alloc ⟨cs,0,false,false⟩)).2)
theorem aIn_len : ∀ {css : List (List Value)} {h : AHeap},(aIn css h).1.length = css.length
 | [],_ => rfl
 | cs :: r,h => by rw [aIn,List.length_cons,List.length_cons,aIn_len]
def pRes : List KR → List PV
 | [] => []
 | .p v :: r => .v v :: pRes r
 | .l cs :: r => .l .fz .any cs.length (cs.map .v) :: pRes r
 | .e ty :: r => .i ty .dead :: pRes r
 | .ll css :: r => .l .fz .any css.length (css.map pIn) :: pRes r
def aRes : List KR → AHeap → List Value × AHeap
 | [],h => ([],h)
 | .p v :: r,h => (v :: (aRes r h).1,(aRes r h).2)
 | .l cs :: r,h => (.slice (some ⟨h.next,0,none⟩) cs.length roCap :: (aRes r (h.alloc ⟨cs,0,false,false⟩)).1,(aRes r (h.alloc ⟨cs,0,false,false⟩)).2)
 | .e ty :: r,h => (.iface ty (.pointer (some ⟨h.next,0,none⟩)) :: (aRes r (h.alloc ⟨[],0,false,false⟩)).1,(aRes r (h.alloc ⟨[],0,false,false⟩)).2)
 | .ll css :: r,h => (.slice (some ⟨(aIn css h).2.next,0,none⟩) css.length roCap :: (aRes r ((aIn css h).2.alloc ⟨(aIn css h).1,0,false,false⟩)).1,(aRes r ((aIn css h).2.alloc ⟨(aIn css h).1,0,false,false⟩)).2)
def pPack : List PV → PV
 | [v] => v
 | vs => .t vs
def libP (e0 : List KA → Option (List KR)) (args : List PV) (hp : List (Option (List PV))) : Option (PV × List (Option (List PV)) × Option Nat) :=
 match paArgs args with
 | some as0 => match e0 as0 with
  | some rs => match rs.all okR with
   | true => some (pPack (pRes rs),hp,none)
   | false => none
  | none => none
 | none => none
def libA (e0 : List KA → Option (List KR)) (args : List Value) (h : AHeap) : Option (Value × AHeap) :=
 match aaArgs h args with
 | some as0 => match e0 as0 with
  | some rs => match rs.all okR with
   | true => some (packed (aRes rs h).1,(aRes rs h).2)
   | false => none
  | none => none
 | none => none
inductive LDen (w : World) : Value → KA → Prop where
 | p (v : Value) (h : plainV v = true) : LDen w v (.p v)
 | nil : LDen w (.slice none 0 0) (.l [])
 | emp (a : Addr) (c : Nat) : LDen w (.slice (some a) 0 c) (.l [])
 | lst (b o c : Nat) (cs : List Value) (hne : cs ≠ []) (hc : cs.length ≤ c) (hb : b < w.heap.size) (hr : w.rangeAt b o cs) : LDen w (.slice (some ⟨b,o,none⟩) cs.length c) (.l cs)
 | m (b : Nat) (es : List MapEntry) (c : Nat) (hw : w.heap[b]? = some (.map es.toArray c)) : LDen w (.map (some b)) (.m es c)
inductive LDens (w : World) : List Value → List KA → Prop where
 | nil : LDens w [] []
 | cons (v : Value) (a : KA) (vs : List Value) (as0 : List KA) (h : LDen w v a) (ht : LDens w vs as0) : LDens w (v :: vs) (a :: as0)
inductive IDens (n : Nat) (w : World) : List Value → List (List Value) → Prop where
 | nil : IDens n w [] []
 | cons (b o c : Nat) (cs : List Value) (C : Array Value) (e : TypeId) (fr : Nat × Nat) (us : List Value) (css : List (List Value)) (hc : cs.length ≤ c) (hb : n ≤ b) (hw : w.heap[b]? = some (.cells C e fr)) (hs : o + cs.length ≤ C.size)
   (hx : ∀ i,i < cs.length → cs.getD i undef = C.getD (o + i) undef) (ht : IDens n w us css) : IDens n w (.slice (some ⟨b,o,none⟩) cs.length c :: us) (cs :: css)
theorem IDens.len {n : Nat} {w : World} : ∀ {us : List Value} {css : List (List Value)},IDens n w us css → us.length = css.length
 | _,_,.nil => rfl
 | _,_,.cons _ _ _ _ _ _ _ _ _ _ _ _ _ _ ht => by rw [List.length_cons,List.length_cons,ht.len]
inductive RDen (n : Nat) (w : World) : Value → KR → Prop where
 | p (v : Value) : RDen n w v (.p v)
 | l (b o c : Nat) (cs : List Value) (C : Array Value) (e : TypeId) (fr : Nat × Nat) (hc : cs.length ≤ c) (hb : n ≤ b) (hw : w.heap[b]? = some (.cells C e fr)) (hs : o + cs.length ≤ C.size) (hx : ∀ i,i < cs.length → cs.getD i undef = C.getD (o + i) undef) : RDen n w (.slice (some ⟨b,o,none⟩) cs.length c) (.l cs)
 | e (b o : Nat) (ty : TypeId) (C : Array Value) (e : TypeId) (fr : Nat × Nat) (hb : n ≤ b) (hw : w.heap[b]? = some (.cells C e fr)) (hs : o ≤ C.size) : RDen n w (.iface ty (.pointer (some ⟨b,o,none⟩))) (.e ty)
 | ll (b o c : Nat) (css : List (List Value)) (us : List Value) (C : Array Value) (e : TypeId) (fr : Nat × Nat) (hi : IDens n w us css) (hc : css.length ≤ c) (hb : n ≤ b) (hw : w.heap[b]? = some (.cells C e fr)) (hs : o + css.length ≤ C.size)
   (hx : ∀ i,i < css.length → us.getD i undef = C.getD (o + i) undef) : RDen n w (.slice (some ⟨b,o,none⟩) css.length c) (.ll css)
inductive RDens (n : Nat) (w : World) : List Value → List KR → Prop where
 | nil : RDens n w [] []
 | cons (v : Value) (a : KR) (vs : List Value) (as0 : List KR) (h : RDen n w v a) (ht : RDens n w vs as0) : RDens n w (v :: vs) (a :: as0)
section
variable {P : Program} {Y : Pol}
theorem aaArg_den {m : BMap} {h : AHeap} {w : World} (hR : Rel P m h w) {v v' : Value} {a : KA} (ha : aaArg h v = some a) (hv : VRel m v v') : LDen w v' a := by
 unfold aaArg at ha
 split at ha
 ·split at ha
  ·cases ha; rw [hv.inv_snil]; exact .nil
  ·cases ha
 ·rename_i a0 n c
  split at ha
  ·rename_i hcap
   split at ha
   ·cases ha
    obtain ⟨a',c',rfl,_⟩ := hv.inv_slice
    exact .emp _ _
   ·rename_i k
    split at ha
    ·rename_i cs hcs
     split at ha
     ·rename_i hpl
      cases ha
      obtain ⟨a',c',rfl,h1,h2,h3⟩ := hv.inv_slice
      obtain ⟨L,hm,hs,rfl,_⟩ := h1 (.inl (Nat.succ_ne_zero k))
      obtain ⟨cs',hr,hrange,hlen⟩ := cellsAt_rel hR hm hcs
      have e : cs' = cs := LRel.all_plain hr hpl
      subst e
      rw [show k.succ = cs'.length from hlen.symm]
      refine .lst _ _ _ _ (fun e => by rw [e] at hlen; cases hlen) ?_ (hR.lt _ _ hm) hrange
      rw [hlen]
      simp only [Bool.or_eq_true,Nat.ble_eq] at hcap
      by_cases hc : c < unkCap
      ·rw [h2 hc]
       exact hcap.elim (fun hh => absurd hh (Nat.not_le.2 hc)) (fun hh => hh)
      ·exact (h3 (Nat.not_lt.1 hc)).2
     ·cases ha
    ·cases ha
  ·cases ha
 ·rename_i a0
  split at ha
  ·rename_i es c hx
   cases ha
   obtain ⟨L,hm,rfl⟩ := hv.inv_map
   exact .m _ _ _ (hR.its.at_ a0 _ L hx hm).1
  ·cases ha
 ·split at ha
  ·rename_i hp
   cases ha
   rw [hv.inv_plainV hp]
   exact .p _ hp
  ·cases ha
theorem aaArgs_den {m : BMap} {h : AHeap} {w : World} (hR : Rel P m h w) : ∀ {vs vs' : List Value} {as0 : List KA},aaArgs h vs = some as0 → LRel m vs vs' → LDens w vs' as0
 | [],vs',as0,ha,hv => by
  cases ha
  rcases hv.ind with ⟨_,rfl⟩ | ⟨_,_,_,_,h1,_⟩
  ·exact .nil
  ·cases h1
 | v :: vs,vs',as0,ha,hv => by
  rcases hv.ind with ⟨h1,_⟩ | ⟨v0,u,r,us,h1,rfl,h3,h4⟩
  ·cases h1
  ·cases h1
   unfold aaArgs at ha
   split at ha
   ·rename_i a as' h5 h6
    cases ha
    exact .cons _ _ _ _ (aaArg_den hR h5 h3) (aaArgs_den hR h6 h4)
   ·cases ha
theorem rel_own {m0 : BMap} {h0 : AHeap} {w0 : World} {m : BMap} {h : AHeap} {w : World} (hR : Rel P m h w) (hS : Sim m0 h0 w0 m h w) (hnew : ∀ a L,m a = some L → m0 a = some L ∨ w0.heap.size ≤ L.b) (hro : ∀ a B L,h.get a = some B → m a = some L → w0.heap.size ≤ L.b → B.wr = false)
  (hlt : ∀ a L,m0 a = some L → L.b < w0.heap.size) (hit : ∀ a x L,h.getIt a = some x → m a = some L → L.b < w0.heap.size)
  {cs : List Value} {b o : Nat} {C : Array Value} {e : TypeId} {fr : Nat × Nat} (hb : w0.heap.size ≤ b) (hw : w.heap[b]? = some (.cells C e fr)) (hs : o + cs.length ≤ C.size) (hx : ∀ i,i < cs.length → VRel m (cs.getD i undef) (C.getD (o + i) undef)) (cap : Nat) :
  Rel P (upd m h.next ⟨b,o,cap⟩) (h.alloc ⟨cs,0,false,false⟩) w ∧ Sim m0 h0 w0 (upd m h.next ⟨b,o,cap⟩) (h.alloc ⟨cs,0,false,false⟩) w ∧
   (∀ a L,upd m h.next ⟨b,o,cap⟩ a = some L → m0 a = some L ∨ w0.heap.size ≤ L.b) ∧ (∀ a B L,(h.alloc ⟨cs,0,false,false⟩).get a = some B → upd m h.next ⟨b,o,cap⟩ a = some L → w0.heap.size ≤ L.b → B.wr = false) ∧
   (∀ a x L,(h.alloc ⟨cs,0,false,false⟩).getIt a = some x → upd m h.next ⟨b,o,cap⟩ a = some L → L.b < w0.heap.size) := by
 have hf := hR.fresh h.next (Nat.le_refl _)
 have hext := upd_ext (L := ⟨b,o,cap⟩) hf
 have hblt : b < w.heap.size := (Array.getElem?_eq_some_iff.1 hw).1
 have hcase : ∀ a K,upd m h.next ⟨b,o,cap⟩ a = some K → (a = h.next ∧ K = ⟨b,o,cap⟩) ∨ (a ≠ h.next ∧ m a = some K) := fun a K hk => by
  unfold upd at hk
  split at hk
  ·cases hk; exact .inl ⟨‹_›,rfl⟩
  ·exact .inr ⟨‹_›,hk⟩
 have hits : ItRel (upd m h.next ⟨b,o,cap⟩) (h.alloc ⟨cs,0,false,false⟩) w := hR.its.keep rfl (Nat.le_succ _) (fun a K hk hs => by
   rcases hcase a K hk with ⟨rfl,_⟩ | ⟨_,hk⟩
   ·rw [hR.its.wf _ (Nat.le_refl _)] at hs; cases hs
   ·exact hk) (fun r x hr => hr)
 refine ⟨⟨?_, ?_, ?_, ?_, ?_, ?_,hits⟩,⟨?_,hS.os,hS.output,hS.tape,hS.size, ?_, ?_,hS.low,Nat.le_trans hS.next (Nat.le_succ _), ?_, ?_, ?_, ?_, ?_⟩, ?_, ?_, ?_⟩
 ·intro a K hk
  rcases hcase a K hk with ⟨_,rfl⟩ | ⟨_,hk⟩
  ·exact hblt
  ·exact hR.lt a K hk
 ·intro a ha
  have ha' : h.next + 1 ≤ a := ha
  unfold upd
  rw [if_neg (by omega)]
  exact hR.fresh a (by omega)
 ·intro a B' K hg hk
  rw [AHeap.get_alloc] at hg
  rcases hcase a K hk with ⟨rfl,rfl⟩ | ⟨hne,hk⟩
  ·rw [if_pos rfl] at hg
   cases hg
   exact ⟨C,e,fr,hw,(fun hh => by cases hh),hs,(fun i hi => (hx i hi).mono hext),fun hh => by cases hh⟩
  ·rw [if_neg hne] at hg
   exact ((hR.blk a B' K hg hk).mono hext).same rfl
 ·intro a a' B1 B2 K1 K2 g1 g2 k1 k2 he hne
  rw [AHeap.get_alloc] at g1 g2
  rcases hcase a K1 k1 with ⟨rfl,rfl⟩ | ⟨n1,k1⟩
  ·rcases hcase a' K2 k2 with ⟨rfl,rfl⟩ | ⟨n2,k2⟩
   ·exact absurd rfl hne
   ·rw [if_pos rfl] at g1
    rw [if_neg n2] at g2
    cases g1
    exact ⟨rfl,hro a' B2 K2 g2 k2 (by rw [← he]; exact hb)⟩
  ·rcases hcase a' K2 k2 with ⟨rfl,rfl⟩ | ⟨n2,k2⟩
   ·rw [if_neg n1] at g1
    rw [if_pos rfl] at g2
    cases g2
    exact ⟨hro a B1 K1 g1 k1 (by rw [he]; exact hb),rfl⟩
   ·rw [if_neg n1] at g1
    rw [if_neg n2] at g2
    exact hR.inj a a' B1 B2 K1 K2 g1 g2 k1 k2 he hne
 ·intro g hg
  exact hext _ _ (hR.glob g hg)
 ·intro a ha
  have ha' : h.next + 1 ≤ a := ha
  rw [AHeap.get_alloc,if_neg (by omega)]
  exact hR.wf a (by omega)
 ·intro a L hL; exact hext _ _ (hS.ext a L hL)
 ·exact hS.frame
 ·intro a K hk
  rcases hcase a K hk with ⟨_,rfl⟩ | ⟨_,hk⟩
  ·exact .inr (.inl hb)
  ·exact hS.img a K hk
 ·intro a ha
  unfold upd
  rw [if_neg (by have := hS.next; omega)]
  exact hS.newm a ha
 ·intro a ha hl
  rw [AHeap.get_alloc,if_neg (by have := hS.next; omega)]
  exact hS.old a ha hl
 ·intro a ha hd
  rw [AHeap.get_alloc,if_neg (by have := hS.next; omega)]; exact hS.dead a ha hd
 ·intro a B' ha hg
  rw [AHeap.get_alloc,if_neg (by have := hS.next; omega)] at hg
  exact hS.wrs a B' ha hg
 ·exact hS.itd
 ·intro a L hL
  rcases hcase a L hL with ⟨_,rfl⟩ | ⟨_,hL⟩
  ·exact .inr hb
  ·exact hnew a L hL
 ·intro a B L hg hL hn
  rw [AHeap.get_alloc] at hg
  rcases hcase a L hL with ⟨rfl,rfl⟩ | ⟨hne,hL⟩
  ·rw [if_pos rfl] at hg; cases hg; rfl
  ·rw [if_neg hne] at hg
   exact hro a B L hg hL hn
 ·intro a x L hg hL
  have hg' : h.getIt a = some x := hg
  rcases hcase a L hL with ⟨rfl,_⟩ | ⟨_,hL⟩
  ·rw [hR.its.wf _ (Nat.le_refl _)] at hg'; cases hg'
  ·exact hit a x L hg' hL
theorem plain_getD {cs : List Value} (h : cs.all okP = true) {m : BMap} {i : Nat} (hi : i < cs.length) : VRel m (cs.getD i undef) (cs.getD i undef) := by
 rw [List.getD_eq_getElem?_getD,List.getElem?_eq_getElem hi]
 exact .plain _ (okP_plain (List.all_eq_true.1 h _ (List.getElem_mem hi)))
theorem aIn_rel {m0 : BMap} {h0 : AHeap} {w0 : World} {w : World} (hlt : ∀ a L,m0 a = some L → L.b < w0.heap.size) : ∀ {css : List (List Value)} {us : List Value} {m : BMap} {h : AHeap},Rel P m h w → Sim m0 h0 w0 m h w → (∀ a L,m a = some L → m0 a = some L ∨ w0.heap.size ≤ L.b) →
  (∀ a B L,h.get a = some B → m a = some L → w0.heap.size ≤ L.b → B.wr = false) → (∀ a x L,h.getIt a = some x → m a = some L → L.b < w0.heap.size) → css.all okL = true → IDens w0.heap.size w us css →
  ∃ m',(∀ a L,m a = some L → m' a = some L) ∧ LRel m' (aIn css h).1 us ∧ Rel P m' (aIn css h).2 w ∧ Sim m0 h0 w0 m' (aIn css h).2 w ∧ (∀ a L,m' a = some L → m0 a = some L ∨ w0.heap.size ≤ L.b) ∧
   (∀ a B L,(aIn css h).2.get a = some B → m' a = some L → w0.heap.size ≤ L.b → B.wr = false) ∧ (∀ a x L,(aIn css h).2.getIt a = some x → m' a = some L → L.b < w0.heap.size)
 | [],us,m,h,hR,hS,h1,h2,h3,_,hd => by cases hd; exact ⟨m,fun _ _ h => h,LRel.nil _,hR,hS,h1,h2,h3⟩
 | cs :: css,us,m,h,hR,hS,hnew,hro,hit,hok,hd => by
  cases hd with
  | cons b o c _ C e fr us' _ hc hb hw hs hx ht =>
  simp only [List.all_cons,Bool.and_eq_true] at hok
  have hok1 : cs.all okP = true := by have := hok.1; simp only [okL,Bool.and_eq_true] at this; exact this.1
  obtain ⟨r1,r2,r3,r4,r5⟩ := rel_own hR hS hnew hro hlt hit (cs := cs) (o := o) hb hw hs (fun i hi => by rw [← hx i hi]; exact plain_getD hok1 hi) 0
  obtain ⟨m',e1,e2,e3,e4,e5⟩ := aIn_rel hlt r1 r2 r3 r4 r5 hok.2 ht
  refine ⟨m',fun a L hL => e1 a L (upd_ext (hR.fresh _ (Nat.le_refl _)) a L hL),LRel.cons ?_ e2,e3,e4,e5⟩
  exact .ro _ _ _ _ 0 hc (fun _ => ⟨⟨b,o,0⟩,e1 _ _ (by unfold upd; rw [if_pos rfl]),rfl,rfl,fun hh => absurd rfl hh⟩)
theorem aRes_rel {m0 : BMap} {h0 : AHeap} {w0 : World} {w : World} (hlt : ∀ a L,m0 a = some L → L.b < w0.heap.size) : ∀ {rs : List KR} {vs : List Value} {m : BMap} {h : AHeap},Rel P m h w → Sim m0 h0 w0 m h w → (∀ a L,m a = some L → m0 a = some L ∨ w0.heap.size ≤ L.b) →
  (∀ a B L,h.get a = some B → m a = some L → w0.heap.size ≤ L.b → B.wr = false) → (∀ a x L,h.getIt a = some x → m a = some L → L.b < w0.heap.size) → rs.all okR = true → RDens w0.heap.size w vs rs →
  ∃ m',(∀ a L,m a = some L → m' a = some L) ∧ LRel m' (aRes rs h).1 vs ∧ Rel P m' (aRes rs h).2 w ∧ Sim m0 h0 w0 m' (aRes rs h).2 w
 | [],vs,m,h,hR,hS,_,_,_,_,hd => by cases hd; exact ⟨m,fun _ _ h => h,LRel.nil _,hR,hS⟩
 | r :: rs,vs,m,h,hR,hS,hnew,hro,hit,hok,hd => by
  cases hd with
  | cons v _ vs' _ hv ht =>
  simp only [List.all_cons,Bool.and_eq_true] at hok
  cases hv with
  | p x =>
   obtain ⟨m',e1,e2,e3,e4⟩ := aRes_rel hlt hR hS hnew hro hit hok.2 ht
   exact ⟨m',e1,LRel.cons (.plain _ (okP_plain hok.1)) e2,e3,e4⟩
  | l b o c cs C e fr hc hb hw hs hx =>
   have hok1 : cs.all okP = true := by have := hok.1; simp only [okR,Bool.and_eq_true] at this; exact this.1
   obtain ⟨r1,r2,r3,r4,r5⟩ := rel_own hR hS hnew hro hlt hit (cs := cs) (o := o) hb hw hs (fun i hi => by rw [← hx i hi]; exact plain_getD hok1 hi) 0
   obtain ⟨m',e1,e2,e3,e4⟩ := aRes_rel hlt r1 r2 r3 r4 r5 hok.2 ht
   refine ⟨m',fun a L hL => e1 a L (upd_ext (hR.fresh _ (Nat.le_refl _)) a L hL),LRel.cons ?_ e2,e3,e4⟩
   exact .ro _ _ _ _ 0 hc (fun _ => ⟨⟨b,o,0⟩,e1 _ _ (by unfold upd; rw [if_pos rfl]),rfl,rfl,fun hh => absurd rfl hh⟩)
  | e b o ty C e fr hb hw hs =>
   obtain ⟨r1,r2,r3,r4,r5⟩ := rel_own hR hS hnew hro hlt hit (cs := []) (o := o) hb hw hs (fun i hi => absurd hi (Nat.not_lt_zero _)) 0
   obtain ⟨m',e1,e2,e3,e4⟩ := aRes_rel hlt r1 r2 r3 r4 r5 hok.2 ht
   refine ⟨m',fun a L hL => e1 a L (upd_ext (hR.fresh _ (Nat.le_refl _)) a L hL),LRel.cons (.iface _ _ _ ?_) e2,e3,e4⟩
   exact .ptr ⟨h.next,0,none⟩ ⟨b,o,0⟩ (e1 _ _ (by unfold upd; rw [if_pos rfl])) rfl
  | ll b o c css us C e fr hi hc hb hw hs hx =>
   have hok1 : css.all okL = true := by have := hok.1; simp only [okR,Bool.and_eq_true] at this; exact this.1
   obtain ⟨m1,f1,f2,f3,f4,f5,f6,f7⟩ := aIn_rel hlt hR hS hnew hro hit hok1 hi
   obtain ⟨r1,r2,r3,r4,r5⟩ := rel_own f3 f4 f5 f6 hlt f7 (cs := (aIn css h).1) (o := o) hb hw (by rw [aIn_len]; exact hs) (fun i hi => by rw [← hx i (by rw [aIn_len] at hi; exact hi)]; exact f2.2 i hi) 0
   obtain ⟨m',e1,e2,e3,e4⟩ := aRes_rel hlt r1 r2 r3 r4 r5 hok.2 ht
   refine ⟨m',fun a L hL => e1 a L (upd_ext (f3.fresh _ (Nat.le_refl _)) a L (f1 a L hL)),LRel.cons ?_ e2,e3,e4⟩
   exact .ro _ _ _ _ 0 hc (fun _ => ⟨⟨b,o,0⟩,e1 _ _ (by unfold upd; rw [if_pos rfl]),rfl,rfl,fun hh => absurd rfl hh⟩)
theorem packed_ext {m : BMap} {l l' : List Value} (h : LRel m l l') : VRel m (packed l) (packed l') := by
 rcases h.ind with ⟨rfl,rfl⟩ | ⟨v,v',r,r',rfl,rfl,h1,h2⟩
 ·exact .tuple _ _ rfl (fun i hi => absurd hi (Nat.not_lt_zero _))
 ·rcases h2.ind with ⟨rfl,rfl⟩ | ⟨_,_,_,_,rfl,rfl,_,_⟩
  ·exact h1
  ·exact VRel.tuple_of h
theorem pplains_lr {C : Ctx} {h : AHeap} {π : Option Pl} : ∀ {us : List PV} {vs xs : List Value},pplains us = some vs → LR C h π us xs → vs = xs ∧ ∀ v ∈ vs,plain v = true
 | [],vs,xs,hq,hl => by
  cases hq
  rcases hl.ind with ⟨_,rfl⟩ | ⟨_,_,_,_,h1,_⟩
  ·exact ⟨rfl,fun _ h => by cases h⟩
  ·cases h1
 | u :: us,vs,xs,hq,hl => by
  rcases hl.ind with ⟨h1,_⟩ | ⟨u0,x,r,ys,h1,rfl,h3,h4⟩
  ·cases h1
  ·cases h1
   unfold pplains at hq
   split at hq
   ·rename_i hh; cases hh
   ·rename_i x0 l hh
    cases hh
    split at hq
    ·rename_i r hr
     cases hq
     obtain ⟨e,hp⟩ := pplains_lr hr h4
     obtain ⟨e1,e2,_⟩ := h3.inv_v
     subst e1; subst e
     exact ⟨rfl,fun v hv => by
      rcases List.mem_cons.1 hv with rfl | hv
      ·exact e2
      ·exact hp v hv⟩
    ·cases hq
   ·cases hq
theorem paArg_vr {C : Ctx} {h : AHeap} {π : Option Pl} {u : PV} {x : Value} {a : KA} (ha : paArg u = some a) (hv : VR C h π u x) : aaArg h x = some a := by
 unfold paArg at ha
 split at ha
 ·cases ha
  obtain ⟨rfl,h2,h3⟩ := hv.inv_v
  unfold aaArg
  split
  ·rename_i n c; exact absurd rfl (h3 n c)
  ·rename_i a n c; cases h2
  ·rename_i a; cases h2
  ·rename_i h4 h5 h6
   have : plainV x = true := by
    cases x <;> first | exact h2 | (cases h2; done)
   rw [this]
 ·rename_i k c n cs
  split at ha
  ·rename_i vs hvs hn
   cases ha
   have hn := Nat.eq_of_beq_eq_true hn
   rcases hv.inv_l with ⟨rfl,rfl,rfl⟩ | ⟨ad,cap,B,rfl,hb,hs,hk,hlt,hc,hl,hcs⟩
   ·cases hvs; rfl
   ·have hl' := hcs
    obtain ⟨e,hp⟩ := pplains_lr hvs hl'
    unfold aaArg
    have hcap : (Nat.ble unkCap cap || Nat.ble n cap) = true := by
     by_cases hh : cap < unkCap
     ·have := hc.le hh
      simp [Nat.ble_eq,this]
     ·have := Nat.not_lt.1 hh
      simp [Nat.ble_eq,this]
    simp only [hcap]
    cases n with
    | zero =>
     have : cs = [] := List.length_eq_zero_iff.1 hn.symm
     subst this
     cases hvs; rfl
    | succ k =>
     have hcell : cellsAt h ad (k + 1) = some vs := by
      unfold cellsAt
      rw [hb]
      simp only []
      rw [e,hn]
      exact takeN_of (by simp; omega)
     simp only [hcell]
     rw [List.all_eq_true.2 hp]
  ·cases ha
 ·rename_i cs
  split at ha
  ·rename_i vs hvs
   cases ha
   obtain ⟨l,rfl,hl⟩ := hv.inv_a
   obtain ⟨e,hp⟩ := pplains_lr hvs hl
   subst e
   show (match plainV (.agg l) with | true => some (KA.p (.agg l)) | false => none) = _
   have : plainV (.agg l) = true := List.all_eq_true.2 hp
   rw [this]
  ·cases ha
 ·rename_i k es c
  cases ha
  cases hv with
  | m _ _ _ _ id hk hi =>
   unfold aaArg
   simp only [hi]
 ·cases ha
where takeN_of : ∀ {n : Nat} {l : List Value}, n ≤ l.length → takeN n l = some (l.take n)
 | 0,_,_ => by simp [takeN]
 | n + 1,[],h => by simp at h
 | n + 1,x :: l,h => by
  unfold takeN
  rw [takeN_of (by simpa using h)]
  rfl
theorem paArg_aa {C : Ctx} {h : AHeap} {u : PV} {x : Value} {a : KA} (ha : paArg u = some a) (hv : VA C h u x) : aaArg h x = some a := paArg_vr ha (hv 0)
theorem paArgs_aa {C : Ctx} {h : AHeap} : ∀ {us : List PV} {xs : List Value} {as0 : List KA},paArgs us = some as0 → LP1 C h us xs → aaArgs h xs = some as0
 | [],[],as0,ha,_ => ha
 | [],_ :: _,_,_,hl => hl.elim
 | _ :: _,[],_,_,hl => hl.elim
 | u :: us,x :: xs,as0,ha,hl => by
  unfold paArgs at ha
  split at ha
  ·rename_i a as' h1 h2
   cases ha
   unfold aaArgs
   rw [paArg_aa h1 hl.1.1,paArgs_aa h2 hl.2]
  ·cases ha
theorem pRes_firm : ∀ {rs : List KR},(pRes rs).all firm = true
 | [] => rfl
 | .p v :: r => by simp only [pRes,List.all_cons,pRes_firm (rs := r),Bool.and_true]; rfl
 | .l cs :: r => by simp only [pRes,List.all_cons,pRes_firm (rs := r),Bool.and_true]; rfl
 | .e ty :: r => by simp only [pRes,List.all_cons,pRes_firm (rs := r),Bool.and_true]; rfl
 | .ll css :: r => by simp only [pRes,List.all_cons,pRes_firm (rs := r),Bool.and_true]; rfl
theorem look_none {f : FuncId} {hp : List (Option (List PV))} {t : Nat} : look Y f ⟨[],.nil,hp,none⟩ t = none := by
 unfold look
 split <;> rfl
theorem Old.trans {C C1 C2 : Ctx} {h h1 h2 : AHeap} (o1 : Old C C1 h h1) (o2 : Old C1 C2 h1 h2) : Old C C2 h h2 :=
 ⟨o2.sz.trans o1.sz,fun b id hb => o2.β _ _ (o1.β _ _ hb),fun id hid => o2.fz _ (o1.fz _ hid),fun id hid => o2.fx _ (o1.fx _ hid),fun id p hid => o2.ow _ _ (o1.ow _ _ hid),
  fun id hid => (o2.get id (hid.elim (fun hh => .inl (o1.fx _ hh)) (fun ⟨p,hh⟩ => .inr ⟨p,o1.ow _ _ hh⟩))).trans (o1.get id hid),fun id hid => (o2.git id (hid.elim (fun hh => .inl (o1.fx _ hh)) (fun ⟨p,hh⟩ => .inr ⟨p,o1.ow _ _ hh⟩))).trans (o1.git id hid)⟩
theorem new_list {C1 : Ctx} {h1 : AHeap} {cs : List Value} {id : Nat} (hok : okL cs = true) (hz : C1.fz id) (hg : h1.get id = some ⟨cs,0,false,false⟩) : VR C1 h1 none (pIn cs) (.slice (some ⟨id,0,none⟩) cs.length roCap) := by
 have hok1 : cs.all okP = true ∧ cs.length < unkCap := by
  simp only [okL,Bool.and_eq_true,Nat.blt_eq] at hok
  exact hok
 refine .lst _ _ _ _ _ _ _ _ hg rfl hz hok1.2 ⟨fun e => by (cases e),fun e => by (cases e),fun e => absurd e (by decide),.inr (.inr (Nat.le_refl _)),fun e => by (cases e), ?_⟩ (by simp) (fun i hi => ?_)
 ·intro v hv
  obtain ⟨y,_,rfl⟩ := List.mem_map.1 hv
  rfl
 ·have hi' : i < cs.length := by simpa using hi
  have e : cs[i]? = some cs[i] := List.getElem?_eq_getElem hi'
  have hp := List.all_eq_true.1 hok1.1 _ (List.getElem_mem hi')
  simp [List.getD_eq_getElem?_getD,e]
  exact .v _ _ (okP_plain hp) (fun n c e => by rw [e] at hp; cases hp)
theorem in_sim {f : FuncId} {hp : List (Option (List PV))} : ∀ {css : List (List Value)} {C : Ctx} {h : AHeap},css.all okL = true → ST P Y f C h ⟨[],.nil,hp,none⟩ .nil →
  ∃ C',ST P Y f C' (aIn css h).2 ⟨[],.nil,hp,none⟩ .nil ∧ Step (Y.keep f) (h.next ≤ ·) C h ⟨[],.nil,hp,none⟩ C' (aIn css h).2 ⟨[],.nil,hp,none⟩ ∧ Old C C' h (aIn css h).2 ∧ C'.β = C.β ∧ C'.ow = C.ow ∧ LR C' (aIn css h).2 none (css.map pIn) (aIn css h).1 ∧ h.next ≤ (aIn css h).2.next
 | [],C,h,_,st => ⟨C,st,.refl _ _ _ _ _,⟨rfl,fun _ _ h => h,fun _ h => h,fun _ h => h,fun _ _ h => h,fun _ _ => rfl,fun _ _ => rfl⟩,rfl,rfl,LR.nil _ _ _,Nat.le_refl _⟩
 | cs :: css,C,h,hok,st => by
  simp only [List.all_cons,Bool.and_eq_true] at hok
  have hf : ¬ Ids C h.next := fun hid => absurd (hid.lt st.hi) (Nat.lt_irrefl _)
  have nh : NewH h h.next ⟨cs,0,false,false⟩ (h.alloc ⟨cs,0,false,false⟩) := ⟨fun k => AHeap.get_alloc _ _ _,Nat.le_succ _,Nat.lt_succ_self _,rfl,rfl⟩
  obtain ⟨s1,t1,o1⟩ := newFz_sim st hf nh
  obtain ⟨C',s2,t2,o2,b2,w2,l2,n2⟩ := in_sim hok.2 s1
  have hfz : (withFz C h.next).fz h.next := .inr rfl
  refine ⟨C',s2,t1.trans t2 (fun _ e => Nat.le_of_eq e.symm) (fun _ e => Nat.le_trans (Nat.le_succ _) e),o1.trans o2,b2,w2,LR.cons ?_ l2,Nat.le_trans (Nat.le_succ _) n2⟩
  exact new_list hok.1 (o2.fz _ hfz) ((o2.get _ (.inl (.inr rfl))).trans (by rw [AHeap.get_alloc,if_pos rfl]))
theorem res_sim {f : FuncId} {hp : List (Option (List PV))} : ∀ {rs : List KR} {C : Ctx} {h : AHeap},rs.all okR = true → ST P Y f C h ⟨[],.nil,hp,none⟩ .nil →
  ∃ C',ST P Y f C' (aRes rs h).2 ⟨[],.nil,hp,none⟩ .nil ∧ Step (Y.keep f) (h.next ≤ ·) C h ⟨[],.nil,hp,none⟩ C' (aRes rs h).2 ⟨[],.nil,hp,none⟩ ∧ Old C C' h (aRes rs h).2 ∧ C'.β = C.β ∧ C'.ow = C.ow ∧ LR C' (aRes rs h).2 none (pRes rs) (aRes rs h).1
 | [],C,h,_,st => ⟨C,st,.refl _ _ _ _ _,⟨rfl,fun _ _ h => h,fun _ h => h,fun _ h => h,fun _ _ h => h,fun _ _ => rfl,fun _ _ => rfl⟩,rfl,rfl,LR.nil _ _ _⟩
 | r :: rs,C,h,hok,st => by
  simp only [List.all_cons,Bool.and_eq_true] at hok
  have step : ∀ (cs : List Value) (u : PV) (x : Value),(∀ C1 : Ctx,∀ h1 : AHeap,C1.fz h.next → h1.get h.next = some ⟨cs,0,false,false⟩ → VR C1 h1 none u x) → ∃ C',ST P Y f C' (aRes rs (h.alloc ⟨cs,0,false,false⟩)).2 ⟨[],.nil,hp,none⟩ .nil ∧
    Step (Y.keep f) (h.next ≤ ·) C h ⟨[],.nil,hp,none⟩ C' (aRes rs (h.alloc ⟨cs,0,false,false⟩)).2 ⟨[],.nil,hp,none⟩ ∧ Old C C' h (aRes rs (h.alloc ⟨cs,0,false,false⟩)).2 ∧ C'.β = C.β ∧ C'.ow = C.ow ∧
    LR C' (aRes rs (h.alloc ⟨cs,0,false,false⟩)).2 none (u :: pRes rs) (x :: (aRes rs (h.alloc ⟨cs,0,false,false⟩)).1) := by
   intro cs u x hu
   have hf : ¬ Ids C h.next := fun hid => absurd (hid.lt st.hi) (Nat.lt_irrefl _)
   have nh : NewH h h.next ⟨cs,0,false,false⟩ (h.alloc ⟨cs,0,false,false⟩) := ⟨fun k => AHeap.get_alloc _ _ _,Nat.le_succ _,Nat.lt_succ_self _,rfl,rfl⟩
   obtain ⟨s1,t1,o1⟩ := newFz_sim st hf nh
   obtain ⟨C',s2,t2,o2,b2,w2,l2⟩ := res_sim hok.2 s1
   have hfz : (withFz C h.next).fz h.next := .inr rfl
   refine ⟨C',s2,t1.trans t2 (fun _ e => Nat.le_of_eq e.symm) (fun _ e => Nat.le_trans (Nat.le_succ _) e), ?_,b2,w2,LR.cons ?_ l2⟩
   ·exact ⟨o2.sz.trans o1.sz,fun b id hb => o2.β _ _ (o1.β _ _ hb),fun id hid => o2.fz _ (o1.fz _ hid),fun id hid => o2.fx _ (o1.fx _ hid),fun id p hid => o2.ow _ _ (o1.ow _ _ hid),
     fun id hid => (o2.get id (hid.elim (fun hh => .inl (o1.fx _ hh)) (fun ⟨p,hh⟩ => .inr ⟨p,o1.ow _ _ hh⟩))).trans (o1.get id hid),fun id hid => (o2.git id (hid.elim (fun hh => .inl (o1.fx _ hh)) (fun ⟨p,hh⟩ => .inr ⟨p,o1.ow _ _ hh⟩))).trans (o1.git id hid)⟩
   ·exact hu C' _ (o2.fz _ hfz) ((o2.get _ (.inl (.inr rfl))).trans (by rw [AHeap.get_alloc,if_pos rfl]))
  cases r with
  | p v =>
   obtain ⟨C',s2,t2,o2,b2,w2,l2⟩ := res_sim hok.2 st
   exact ⟨C',s2,t2,o2,b2,w2,LR.cons (.v _ _ (okP_plain hok.1) (fun n c e => by rw [e] at hok; exact absurd hok.1 (by simp [okR,okP]))) l2⟩
  | l cs =>
   have hok1 : cs.all okP = true ∧ cs.length < unkCap := by
    have := hok.1
    simp only [okR,Bool.and_eq_true,Nat.blt_eq] at this
    exact this
   refine step cs _ _ (fun C1 h1 hz hg => ?_)
   refine .lst _ _ _ _ _ _ _ _ hg rfl hz hok1.2 ⟨fun e => by (cases e),fun e => by (cases e),fun e => absurd e (by decide),.inr (.inr (Nat.le_refl _)),fun e => by (cases e), ?_⟩ (by simp) (fun i hi => ?_)
   ·intro v hv
    obtain ⟨y,_,rfl⟩ := List.mem_map.1 hv
    rfl
   ·have hi' : i < cs.length := by simpa using hi
    have e : cs[i]? = some cs[i] := List.getElem?_eq_getElem hi'
    have hp := List.all_eq_true.1 hok1.1 _ (List.getElem_mem hi')
    simp [List.getD_eq_getElem?_getD,e]
    exact .v _ _ (okP_plain hp) (fun n c e => by rw [e] at hp; cases hp)
  | e ty =>
   exact step [] _ _ (fun C1 h1 hz hg => .i _ _ _ _ (.dead _ _))
  | ll css =>
   have hok1 : css.all okL = true ∧ css.length < unkCap := by
    have := hok.1
    simp only [okR,Bool.and_eq_true,Nat.blt_eq] at this
    exact this
   obtain ⟨C1,s1,t1,o1,b1,w1,l1,n1⟩ := in_sim (f := f) (hp := hp) hok1.1 st
   have hf : ¬ Ids C1 (aIn css h).2.next := fun hid => absurd (hid.lt s1.hi) (Nat.lt_irrefl _)
   have nh : NewH (aIn css h).2 (aIn css h).2.next ⟨(aIn css h).1,0,false,false⟩ ((aIn css h).2.alloc ⟨(aIn css h).1,0,false,false⟩) := ⟨fun k => AHeap.get_alloc _ _ _,Nat.le_succ _,Nat.lt_succ_self _,rfl,rfl⟩
   obtain ⟨s2,t2,o2⟩ := newFz_sim s1 hf nh
   obtain ⟨C',s3,t3,o3,b3,w3,l3⟩ := res_sim hok.2 s2
   refine ⟨C',s3,t1.trans (t2.trans t3 (N := fun id => h.next ≤ id) (fun _ e => by rw [e]; exact n1) (fun _ e => Nat.le_trans n1 (Nat.le_trans (Nat.le_succ _) e))) (fun _ e => e) (fun _ e => e),o1.trans (o2.trans o3),b3.trans b1,w3.trans w1,LR.cons ?_ l3⟩
   have hz : C'.fz (aIn css h).2.next := o3.fz _ (.inr rfl)
   have hg : (aRes rs ((aIn css h).2.alloc ⟨(aIn css h).1,0,false,false⟩)).2.get (aIn css h).2.next = some ⟨(aIn css h).1,0,false,false⟩ := (o3.get _ (.inl (.inr rfl))).trans (by rw [AHeap.get_alloc,if_pos rfl])
   refine .lst _ _ _ _ _ _ _ _ hg rfl hz hok1.2 ⟨fun e => by (cases e),fun e => by (cases e),fun e => absurd e (by decide),.inr (.inr (Nat.le_refl _)),fun e => by (cases e), ?_⟩ (by simp [aIn_len]) (fun i hi => ?_)
   ·intro v hv
    obtain ⟨y,_,rfl⟩ := List.mem_map.1 hv
    rfl
   ·have hv := (l1.2 i hi).old (o := o2.trans o3) s1.hi.fzx
    simp only [Nat.zero_add]
    exact hv
theorem firm_any {C : Ctx} {h : AHeap} {d : Nat} (hsub : ∀ id,C.fz id → C.fx id) {u : PV} {x : Value} (hf : firm u = true) (h1 : VR C h none u x) : VR C h (some (.tmp d)) u x := by
 refine VR.step (C := C) (C' := C) (h := h) (h' := h) rfl (fun _ _ h => h) (fun _ h => h) (fun _ h => h) hsub (fun _ _ => rfl) (π := none) (π' := some (.tmp d)) (fun t e => by cases e) h1 ?_
 cases u with
 | l k c n cs => cases k <;> first | trivial | cases hf
 | r k cs => cases k <;> first | trivial | cases hf
 | m k es c => cases k <;> first | trivial | cases hf
 | it s pos => cases hf
 | _ => trivial
theorem pPack_vr {C : Ctx} {h : AHeap} {d : Nat} {us : List PV} {xs : List Value} (hsub : ∀ id,C.fz id → C.fx id) (hl : LR C h none us xs) (hf : us.all firm = true) : VR C h (some (.tmp d)) (pPack us) (packed xs) ∧ sound (pPack us) = true ∧ isOwn (pPack us) = false := by
 rcases hl.ind with ⟨rfl,rfl⟩ | ⟨u,x,r,r',rfl,rfl,h1,h2⟩
 ·exact ⟨.t _ _ _ rfl (fun i hi => absurd hi (Nat.not_lt_zero _)),rfl,rfl⟩
 ·rcases h2.ind with ⟨rfl,rfl⟩ | ⟨_,_,_,_,rfl,rfl,_,_⟩
  ·simp only [List.all_cons,Bool.and_eq_true] at hf
   refine ⟨firm_any hsub hf.1 h1, ?_,(firm_loose hf.1).2⟩
   show sound u = true
   cases u with
   | t cs => cases hf.1
   | l k c n cs => cases k <;> first | exact hf.1 | rfl
   | m k es c => cases k <;> first | exact hf.1 | rfl
   | _ => exact hf.1
  ·exact ⟨VR.tuple_of hl,hf,rfl⟩
theorem aIn_aext : ∀ {css : List (List Value)} {h : AHeap},AExt h (aIn css h).2
 | [],h => AExt.refl _
 | cs :: r,h => (AExt.alloc h _).trans (aIn_aext (css := r))
theorem fnOK_lib {g : FuncId} (e0 : List KA → Option (List KR)) (hx : Y.ext g = libP e0) (hb : (bodyOf P g).isSome = true)
  (hc : ∀ as0 rs,e0 as0 = some rs → ∀ m h w,Rel P m h w → ∀ args,LDens w args as0 → Calls P g args.toArray w fun e w' => ∃ vs,e = .returned (packed vs) ∧ Below w.heap.size w w' ∧ RDens w.heap.size w' vs rs) : FnOK P Y g := by
 refine ⟨libA e0,fun args h v h' hq => ?_,fun args hp r hp' w hq C h args' d hin => ?_⟩
 ·unfold libA at hq
  split at hq
  ·rename_i as0 has
   split at hq
   ·rename_i rs hrs
    split at hq
    ·rename_i hok
     cases hq
     refine ⟨aRes_ext,hb,fun m w args' hR hA => ?_⟩
     refine (hc as0 rs hrs m h w hR args' (aaArgs_den hR has hA)).mono fun e w' ⟨vs,he,hbl,hd⟩ => ?_
     obtain ⟨r1,r2⟩ := hR.below hbl
     obtain ⟨m',e1,e2,e3,e4⟩ := aRes_rel (m0 := m) (h0 := h) (w0 := w) (fun a L hL => hR.lt a L hL) r1 r2 (fun a L hL => .inl hL) (fun a B L _ hL hn => absurd (hR.lt a L hL) (Nat.not_lt.2 hn)) (fun a x L _ hL => hR.lt a L hL) hok hd
     exact ⟨m',packed vs,he,packed_ext e2,e3,e4⟩
    ·cases hq
   ·cases hq
  ·cases hq
 ·rw [hx] at hq
  unfold libP at hq
  split at hq
  ·rename_i as0 has
   split at hq
   ·rename_i rs hrs
    split at hq
    ·rename_i hok
     cases hq
     have st0 : ST P Y 0 C h ⟨[],.nil,hp,none⟩ .nil := ⟨hin.sz,hin.hi,fun t v hv => absurd (look_none.symm.trans hv) (fun e => by cases e),fun t v _ hv => (by cases hv),hin.gr,fun d t es c es' c' h1 => absurd (look_none.symm.trans h1) (fun e => by cases e)⟩
     obtain ⟨C',s2,t2,o2,b2,w2,l2⟩ := res_sim hok st0
     obtain ⟨p1,p2,p3⟩ := pPack_vr (d := d) s2.hi.fzx l2 pRes_firm
     refine ⟨C',(aRes rs h).2,packed (aRes rs h).1, ?_,⟨s2.hi,t2.ext,t2.ids,Nat.le_refl _,fun b id hb => by rw [b2] at hb; exact .inl hb,fun id p ho => .inl (hin.owc id p (by rw [w2] at ho; exact ho)),p1,p2,(fun e => absurd (p3.symm.trans e) (by decide)),fun F l => t2.lp F (fun id hid => Nat.le_trans l.n0 hid) l⟩⟩
     unfold libA
     rw [paArgs_aa has hin.args]
     simp only [hrs,hok]
    ·cases hq
   ·cases hq
  ·cases hq
where aRes_ext : ∀ {rs : List KR} {h : AHeap}, AExt h (aRes rs h).2
 | [],h => AExt.refl _
 | .p v :: r,h => aRes_ext (rs := r)
 | .l cs :: r,h => (AExt.alloc h _).trans (aRes_ext (rs := r))
 | .e ty :: r,h => (AExt.alloc h _).trans (aRes_ext (rs := r))
 | .ll css :: r,h => (aIn_aext.trans (AExt.alloc _ _)).trans (aRes_ext (rs := r))
end
end Go.Pur
set_option linter.unusedVariables false
set_option linter.unusedSimpArgs false
namespace Go.Pur
open Go.Abs
def fq_move (P : Program) (Y : Pol) (f : FuncId) (x : Operand) (σ : St) : Option PV := pev Y f σ x
def fq_pick (P : Program) (Y : Pol) (f : FuncId) (c : Operand) (x : Operand) (y : Operand) (σ : St) : Option PV := match pev Y f σ c with
  | some (.v (.bool true)) => match evSafe y with
   | true => pev Y f σ x
   | false => none
  | some (.v (.bool false)) => match evSafe x with
   | true => pev Y f σ y
   | false => none
  | _ => none
def fq_nilCheck (P : Program) (Y : Pol) (f : FuncId) (x : Operand) (σ : St) : Option PV := match pev Y f σ x with
  | some (.p b o) => some (.p b o)
  | some (.r k cs) => some (.r k cs)
  | some (.f g as1 bs) => some (.f g as1 bs)
  | _ => none
def fq_binOp (P : Program) (Y : Pol) (f : FuncId) (op : BinOp) (t : TypeId) (x : Operand) (y : Operand) (σ : St) : Option PV := match pev Y f σ x,pev Y f σ y with
  | some a,some b => pbin P op t x y a b
  | _,_ => none
def fq_unOp (P : Program) (Y : Pol) (f : FuncId) (op : UnOp) (x : Operand) (σ : St) : Option PV := match pev Y f σ x with
  | some (.v a) => match prunP P (Op.unary op a) with
   | some r => pvOf r
   | none => none
  | _ => none
def fq_convert (P : Program) (Y : Pol) (f : FuncId) (src : TypeId) (dst : TypeId) (x : Operand) (σ : St) : Option PV := match pev Y f σ x with
  | some (.v a) => match prunP P (convert src dst a) with
   | some r => pvOf r
   | none => none
  | _ => none
def fq_slice (P : Program) (Y : Pol) (f : FuncId) (t : TypeId) (x : Operand) (lo : Option Operand) (hi : Option Operand) (mx : Option Operand) (σ : St) : Option PV := match pev Y f σ x,optPlain Y f σ lo,optPlain Y f σ hi,optPlain Y f σ mx with
  | some v,some l,some h,some m => pqSlice P t v l h m
  | _,_,_,_ => none
def fq_fieldAddr (P : Program) (Y : Pol) (f : FuncId) (s : TypeId) (x : Operand) (fd : Nat) (σ : St) : Option PV := match pev Y f σ x with
  | some v => fldAddr P s v fd
  | none => none
def fq_field (P : Program) (Y : Pol) (f : FuncId) (s : TypeId) (x : Operand) (fd : Nat) (σ : St) : Option PV := match pev Y f σ x with
  | some v => pfield P s v fd
  | none => none
def fq_indexAddr (P : Program) (Y : Pol) (f : FuncId) (t : TypeId) (x : Operand) (ix : Operand) (σ : St) : Option PV := match pev Y f σ x,pev Y f σ ix with
  | some v,some (.v i) => idxAddr P t v i
  | _,_ => none
def fq_index (P : Program) (Y : Pol) (f : FuncId) (t : TypeId) (x : Operand) (ix : Operand) (σ : St) : Option PV := match pev Y f σ x,pev Y f σ ix with
  | some v,some (.v i) => pqIndex P t v i
  | _,_ => none
def fq_extract (P : Program) (Y : Pol) (f : FuncId) (x : Operand) (ix : Nat) (σ : St) : Option PV := match pev Y f σ x with
  | some (.t cs) => cs[ix]?
  | _ => none
def fq_len (P : Program) (Y : Pol) (f : FuncId) (args : Array Operand) (argTypes : Array TypeId) (σ : St) : Option PV := match args.toList,argTypes[0]? with
  | [x],some t => match pev Y f σ x with
   | some v => plen P t v
   | none => none
  | _,_ => none
def fq_max (P : Program) (Y : Pol) (f : FuncId) (args : Array Operand) (argTypes : Array TypeId) (σ : St) : Option PV := match pevs Y f σ args.toList with
  | some vs => match pplains vs with
   | some xs => match prunP P (Builtin.max_ argTypes 0 xs.toArray) with
    | some r => pvOf r
    | none => none
   | none => none
  | none => none
def fq_min (P : Program) (Y : Pol) (f : FuncId) (args : Array Operand) (argTypes : Array TypeId) (σ : St) : Option PV := match pevs Y f σ args.toList with
  | some vs => match pplains vs with
   | some xs => match prunP P (Builtin.min_ argTypes 0 xs.toArray) with
    | some r => pvOf r
    | none => none
   | none => none
  | none => none
def fq_call (P : Program) (Y : Pol) (f : FuncId) (b : Builtin) (args : Array Operand) (argTypes : Array TypeId) (σ : St) : Option PV :=
 match b with
 | .len => fq_len P Y f args argTypes σ
 | .max => fq_max P Y f args argTypes σ
 | .min => fq_min P Y f args argTypes σ
 | _ => none
def fq (P : Program) (Y : Pol) (f : FuncId) (op : Op) (σ : St) : Option PV :=
 match op with
 | .move x => fq_move P Y f x σ
 | .assign x => fq_move P Y f x σ
 | .pick c x y => fq_pick P Y f c x y σ
 | .nilCheck x => fq_nilCheck P Y f x σ
 | .binOp op t x y _ => fq_binOp P Y f op t x y σ
 | .unOp op _ x => fq_unOp P Y f op x σ
 | .convert src dst x => fq_convert P Y f src dst x σ
 | .slice t x lo hi mx => fq_slice P Y f t x lo hi mx σ
 | .fieldAddr s x fd => fq_fieldAddr P Y f s x fd σ
 | .field s x fd => fq_field P Y f s x fd σ
 | .indexAddr t x ix => fq_indexAddr P Y f t x ix σ
 | .index t x ix => fq_index P Y f t x ix σ
 | .extract x ix => fq_extract P Y f x ix σ
 | .call c => match c.callee with
  | .builtin b => fq_call P Y f b c.args c.argTypes σ
  | _ => none
 | _ => none
def fo_load (P : Program) (Y : Pol) (f : FuncId) (call : PCallF) (draw : Dr) (t : TypeId) (x : Operand) (σ : St) : Option (PV × St) := match pev Y f σ x with
  | some v => match mayLoad draw v || freeDr draw with
   | true => pload P t v σ
   | false => none
  | none => none
def fo_build (P : Program) (Y : Pol) (f : FuncId) (call : PCallF) (draw : Dr) (t : TypeId) (parts : Array (Nat × Operand)) (σ : St) : Option (PV × St) := match pevParts Y f σ parts.toList,zeroOf P t with
  | some (is,vs),some z => match hows Y f (Y.part f) vs σ with
   | some (vs0,σ0) => match stors Y f [] vs0 σ0,pvCells z,partsOf P t with
    | some (vs',σ'),some zc,some pt => match pfill (partAt pt) (zipParts is vs') zc with
     | some cs => some (.a cs,σ')
     | none => none
    | _,_,_ => none
   | none => none
  | _,_ => none
def fo_makeInterface (P : Program) (Y : Pol) (f : FuncId) (call : PCallF) (draw : Dr) (t : TypeId) (x : Operand) (σ : St) : Option (PV × St) := match pev Y f σ x,P.underlying t with
  | some _,some (.interface _) => none
  | some v,some _ => match stor Y f v σ with
   | some (v',σ',_) => some (.i t v',σ')
   | none => none
  | _,_ => none
def fo_makeFunc (P : Program) (Y : Pol) (f : FuncId) (call : PCallF) (draw : Dr) (fn : Fn) (first : Array Operand) (captured : Array Operand) (σ : St) : Option (PV × St) := match fn,pevs Y f σ first.toList,pevs Y f σ captured.toList with
  | .func g,some as1,some bs => match stors Y f [] (as1 ++ bs) σ with
   | some (l,σ') => some (.f g (l.take as1.length) (l.drop as1.length),σ')
   | none => none
  | _,_,_ => none
def fo_box (P : Program) (Y : Pol) (f : FuncId) (call : PCallF) (draw : Dr) (e : TypeId) (x : Operand) (σ : St) : Option (PV × St) := match pev Y f σ x with
  | some v => match moved Y f v σ with
   | some (v',σ') => match refsTo σ'.hp.length v' with
    | true => some (pnewBlk (pcells v') σ')
    | false => none
   | none => none
  | none => none
def fo_alloc (P : Program) (Y : Pol) (f : FuncId) (call : PCallF) (draw : Dr) (e : TypeId) (σ : St) : Option (PV × St) := match zeroOf P e with
  | some z => match pvCells z with
   | some zc => some (pnewBlk zc σ)
   | none => none
  | none => none
def fo_buildSlice (P : Program) (Y : Pol) (f : FuncId) (call : PCallF) (draw : Dr) (t : TypeId) (n : Nat) (parts : Array (Nat × Operand)) (σ : St) : Option (PV × St) := match pevParts Y f σ parts.toList,shapeOf P t with
  | some (is,vs),some (.slice e sz) => match zeroOf P e,stors Y f [] vs σ with
   | some z,some (vs',σ') => match Nat.ble (n * (sz + 1)) limit24 && Nat.beq (vcells z).length sz,pvCells z with
    | true,some zc => match pfill (fun i => some (i * sz,sz)) (zipParts is vs') (reps (zc.map ownFz) n) with
     | some cs => match cs.all cellOK with
      | true => some (.l .fz .full n cs,σ')
      | false => none
     | none => none
    | _,_ => none
   | _,_ => none
  | _,_ => none
def fo_makeSlice (P : Program) (Y : Pol) (f : FuncId) (call : PCallF) (draw : Dr) (t : TypeId) (l : Operand) (c : Operand) (σ : St) : Option (PV × St) := match pev Y f σ l,pev Y f σ c,shapeOf P t with
  | some (.v (.int _ (.ofNat l))),some (.v (.int _ (.ofNat c))),some (.slice e sz) => match zeroOf P e,byOf P e with
   | some z,some by_ => match Nat.ble l c && Nat.ble (c * (by_ + sz + 1)) limit && Nat.beq (vcells z).length sz,pvCells z with
    | true,some zc => some (.s σ.hp.length 0 l c,{ σ with hp := σ.hp ++ [some (reps zc c)] })
    | _,_ => none
   | _,_ => none
  | _,_,_ => none
def fo_store (P : Program) (Y : Pol) (f : FuncId) (call : PCallF) (draw : Dr) (t : TypeId) (x : Operand) (y : Operand) (σ : St) : Option (PV × St) := match pev Y f σ x,pev Y f σ y,szOf P t with
  | some (.p b off),some v,some n => match moved Y f v σ with
   | some (v',σ') => match Nat.beq (pcells v').length n && refsTo b v' && (pcells v').all one && (mayTurn draw || mayStore Y f σ b draw) with
    | true => match pput b off (pcells v') σ' with
     | some σ'' => some (.dead,σ'')
     | none => none
    | false => none
   | none => none
  | _,_,_ => none
def fo_append (P : Program) (Y : Pol) (f : FuncId) (call : PCallF) (draw : Dr) (args : Array Operand) (argTypes : Array TypeId) (σ : St) : Option (PV × St) := match pevs Y f σ args.toList,argTypes.toList with
  | some [s,x],[t,tx] => match shapeOf P t,psrcLen x,srcFits P tx x with
   | some (.slice e sz),some n,true => match zeroOf P e,byOf P e,psrcLen s with
    | some z,some by_,some m => match Nat.beq n 0 with
     | true => match isList s with
      | true => some (s,σ)
      | false => none
     | false => match psrc sz n x σ with
      | some new => match Nat.ble ((m + n) * (by_ + sz + 1)) limit && Nat.beq (vcells z).length sz && (!(elder Y f s) || mayTurn draw) with
       | true => pgrow Y f sz s n new σ
       | false => none
      | none => none
    | _,_,_ => none
   | _,_,_ => none
  | _,_ => none
def fo_copy (P : Program) (Y : Pol) (f : FuncId) (call : PCallF) (draw : Dr) (args : Array Operand) (argTypes : Array TypeId) (σ : St) : Option (PV × St) := match pevs Y f σ args.toList,argTypes.toList with
  | some [d,x],[t,tx] => match shapeOf P t,psrcLen x,srcFits P tx x,d with
   | some (.slice e sz),some n,true,.s b off m cap => match Nat.beq (Nat.min n m) 0 with
    | true => some (.v (.int .i64 0),σ)
    | false => match psrc sz (Nat.min n m) x σ with
     | some cs => match pput b off cs σ with
      | some σ' => match mayTurn draw with
       | true => some (.v (.int .i64 (Nat.min n m : Nat)),σ')
       | false => none
      | none => none
     | none => none
   | _,_,_,_ => none
  | _,_ => none
def fo_callv (P : Program) (Y : Pol) (f : FuncId) (call : PCallF) (draw : Dr) (fo : Operand) (args : Array Operand) (σ : St) : Option (PV × St) := pcallOp Y f call draw fo args.toList σ
def fo_range (P : Program) (Y : Pol) (f : FuncId) (call : PCallF) (draw : Dr) (t : TypeId) (x : Operand) (σ : St) : Option (PV × St) := match pev Y f σ x,P.underlying t with
  | some (.v (.string s)),some .string => some (.it s 0,σ)
  | _,_ => none
def fo_next (P : Program) (Y : Pol) (f : FuncId) (call : PCallF) (draw : Dr) (x : Operand) (isStr : Bool) (σ : St) : Option (PV × St) := match x,isStr with
  | .tmp t,true => match look Y f σ t with
   | some (.it s pos) => match Nat.blt pos s.size with
    | true => match mayTurn draw with
     | true => some (.t [.v (.bool true),.v (goInt pos),.v (.int .i32 (Utf8.decode s pos).1)],setPl Y f (.it s (pos + (Utf8.decode s pos).2)) σ (.tmp t))
     | false => none
    | false => some (.t [.v (.bool false)],σ)
   | _ => none
  | _,_ => none
def fo_convert (P : Program) (Y : Pol) (f : FuncId) (call : PCallF) (draw : Dr) (src : TypeId) (dst : TypeId) (x : Operand) (σ : St) : Option (PV × St) := match fq P Y f (.convert src dst x) σ with
  | some v => some (v,σ)
  | none => match pbytes P Y f draw src dst x σ with
   | some v => some (v,σ)
   | none => none
def fo_quiet (P : Program) (Y : Pol) (f : FuncId) (op : Op) (σ : St) : Option (PV × St) :=
 match fq P Y f op σ with
 | some v => some (v,σ)
 | none => none
def fo_call (P : Program) (Y : Pol) (f : FuncId) (call : PCallF) (draw : Dr) (c : Call) (σ : St) : Option (PV × St) :=
 match c.callee with
 | .value fo => fo_callv P Y f call draw fo c.args σ
 | .builtin b => match b with
  | .append => fo_append P Y f call draw c.args c.argTypes σ
  | .copy => fo_copy P Y f call draw c.args c.argTypes σ
  | .delete => poper P Y f call draw (.call c) σ
  | .clear => poper P Y f call draw (.call c) σ
  | .len => match fq P Y f (.call c) σ with
   | some v => some (v,σ)
   | none => poper P Y f call draw (.call c) σ
  | _ => fo_quiet P Y f (.call c) σ
 | _ => none
def fo (P : Program) (Y : Pol) (f : FuncId) (call : PCallF) (draw : Dr) (op : Op) (σ : St) : Option (PV × St) :=
 match op with
 | .makeMap t r => poper P Y f call draw (.makeMap t r) σ
 | .mapUpdate t m k x => poper P Y f call draw (.mapUpdate t m k x) σ
 | .insert t m k x => poper P Y f call draw (.insert t m k x) σ
 | .lookup t m k ok => poper P Y f call draw (.lookup t m k ok) σ
 | .mapEntry t m k => poper P Y f call draw (.mapEntry t m k) σ
 | .entryStore t m s x => poper P Y f call draw (.entryStore t m s x) σ
 | .load t x => fo_load P Y f call draw t x σ
 | .build t parts => fo_build P Y f call draw t parts σ
 | .makeInterface t x => fo_makeInterface P Y f call draw t x σ
 | .makeFunc fn first captured => fo_makeFunc P Y f call draw fn first captured σ
 | .box e x => fo_box P Y f call draw e x σ
 | .alloc e => fo_alloc P Y f call draw e σ
 | .buildSlice t n parts => fo_buildSlice P Y f call draw t n parts σ
 | .makeSlice t l c => fo_makeSlice P Y f call draw t l c σ
 | .store t x y => fo_store P Y f call draw t x y σ
 | .range t x => fo_range P Y f call draw t x σ
 | .next x isStr => fo_next P Y f call draw x isStr σ
 | .convert src dst x => fo_convert P Y f call draw src dst x σ
 | .call c => fo_call P Y f call draw c σ
 | op => fo_quiet P Y f op σ
end Go.Pur
namespace Go.Pur
open Go.Abs
section
variable {P : Program} {Y : Pol} {f : FuncId} {nt : Nat} {O : PCallF}
def kO (code : PCodeF) : List Fm → St → Option (AExit × St)
 | [],σ => some (.normal,σ)
 | .c c :: k,σ => match code c σ with
  | some (.normal,σ') => kO code k σ'
  | some (.exit j,σ') => kx j k σ'
  | r => r
 | .blk _ :: k,σ => kO code k σ
 | .lp b :: k,σ => match code (.loop b) σ with
  | some (.normal,σ') => kO code k σ'
  | some (.exit j,σ') => kx j k σ'
  | r => r
where kx (j : Nat) : List Fm → St → Option (AExit × St)
 | [],σ => some (.exit j,σ)
 | .c _ :: k,σ => kx j k σ
 | .blk id :: k,σ => match Nat.beq j id with
  | true => kO code k σ
  | false => kx j k σ
 | .lp _ :: k,σ => kx j k σ
mutual
theorem kO_EK {code : PCodeF} (hc : ∀ x σ r,code x σ = some r → EC P Y f nt x σ = some r) : ∀ {k : List Fm} {σ : St} {r : AExit × St},kO code k σ = some r → EK P Y f nt k σ = some r
 | [],σ,r,h => by simpa only [kO,EK] using h
 | .c c :: k,σ,r,h => by
  simp only [kO] at h
  simp only [EK]
  split at h
  ·rename_i σ' h1; rw [hc _ _ _ h1]; exact kO_EK hc h
  ·rename_i j σ' h1; rw [hc _ _ _ h1]; exact kx_EK hc h
  ·rename_i h1 h2
   rw [hc _ _ _ h]
   obtain ⟨x,σ'⟩ := r
   cases x with
   | normal => exact (h1 _ h).elim
   | exit j => exact (h2 _ _ h).elim
   | _ => rfl
 | .blk id :: k,σ,r,h => by
  simp only [kO] at h
  simp only [EK]
  exact kO_EK hc h
 | .lp b :: k,σ,r,h => by
  simp only [kO] at h
  simp only [EK]
  split at h
  ·rename_i σ' h1; rw [hc _ _ _ h1]; exact kO_EK hc h
  ·rename_i j σ' h1; rw [hc _ _ _ h1]; exact kx_EK hc h
  ·rename_i h1 h2
   rw [hc _ _ _ h]
   obtain ⟨x,σ'⟩ := r
   cases x with
   | normal => exact (h1 _ h).elim
   | exit j => exact (h2 _ _ h).elim
   | _ => rfl
theorem kx_EK {code : PCodeF} (hc : ∀ x σ r,code x σ = some r → EC P Y f nt x σ = some r) {j : Nat} : ∀ {k : List Fm} {σ : St} {r : AExit × St},kO.kx code j k σ = some r → EK.ex P Y f nt j k σ = some r
 | [],σ,r,h => by simpa only [kO.kx,EK.ex] using h
 | .c _ :: k,σ,r,h => by
  simp only [kO.kx] at h
  simp only [EK.ex]
  exact kx_EK hc h
 | .blk id :: k,σ,r,h => by
  simp only [kO.kx] at h
  simp only [EK.ex]
  split at h
  ·rename_i e; rw [e]; exact kO_EK hc h
  ·rename_i e; rw [e]; exact kx_EK hc h
 | .lp _ :: k,σ,r,h => by
  simp only [kO.kx] at h
  simp only [EK.ex]
  exact kx_EK hc h
end
end
section
variable {P : Program} {t : TypeId} {x y : Operand} {k : IntKind}
theorem abin_rem {m n : Int} (hn : n ≠ 0) : abin P .rem t x y (.int k m) (.int k n) = some (.int k (m.tmod n)) :=
 abinS_of (fast_none fun _ _ _ => rfl) (by simp [eqGuard,binOp,Op.intDiv,hn]; rfl) rfl
theorem abin_quo {m n : Int} (hn : n ≠ 0) : abin P .quo t x y (.int k m) (.int k n) = some (.int k (k.wrap (m.tdiv n))) :=
 abinS_of (fast_none fun _ _ _ => rfl) (by simp [eqGuard,binOp,Op.intDiv,hn]; rfl) rfl
end
end Go.Pur
set_option linter.unusedSimpArgs false
set_option linter.unusedVariables false
namespace Go.Pur
open Go.Abs
set_option linter.unusedSimpArgs false
section
variable {P : Program} {t : TypeId}
theorem prun_bnd {α β : Type} (x : Sem α) (f : α → Sem β) : prun P (x >>= f) = match prun P x with
  | some a => prun P (f a)
  | none => none := by
 show prun P (x.bind f) = _
 induction x with
 | pure a => rfl
 | program k ih => exact ih P
 | mark _ k ih => exact ih
 | _ => rfl
theorem prun_pure {α : Type} (a : α) : prun P (pure a) = some a := rfl
theorem str_index (ht : P.underlying t = some .string) {s : ByteArray} {k : IntKind} {i : Nat} (h : i < s.size) : prunP P (Instr.index t (.string s) (.int k i)) = some (.int .u8 (s[i]'h).toNat) := by
 have : s[i]? = some (s[i]'h) := by simp [h]
 unfold prunP Instr.index
 simp [prun_bnd,prun_pure,prun_und ht,asIntOf,this,plain]
end
end Go.Pur
set_option linter.unusedSimpArgs false
set_option linter.unusedVariables false
namespace Go.Pur
open Go.Abs
abbrev sv (s : ByteArray) : PV := .v (.string s)
abbrev bs (l : List UInt8) : ByteArray := ⟨l.toArray⟩
theorem bs_size {l : List UInt8} : (bs l).size = l.length := by simp [ByteArray.size]
theorem bs_get {l : List UInt8} {i : Nat} (h : i < (bs l).size) : (bs l)[i]'h = l[i]'(by rwa [bs_size] at h) := rfl
theorem bleF {a b : Nat} (h : b < a) : Nat.ble a b = false := by rw [nble]; exact decide_eq_false (by omega)
end Go.Pur
set_option linter.unusedSimpArgs false
set_option linter.unusedVariables false
set_option linter.unusedSectionVars false
namespace Go.Pur
open Go.Abs
theorem bind_ok {α β : Type} {x : Option α} {f : α → Option β} {r : β} (h : x.bind f = some r) : ∃ a,x = some a ∧ f a = some r := by
 cases x with
 | none => cases h
 | some a => exact ⟨a,rfl,h⟩
theorem bindT {α β : Type} {a : α} {f : α → Option β} {r : β} (h : (some a).bind f = some r) : ∃ x,a = x ∧ f x = some r := ⟨a,rfl,h⟩
theorem inj_ok {α : Type} {a b : α} (h : some a = some b) : a = b := Option.some.inj h
abbrev kv (k : IntKind) (z : Int) : PV := .v (.int k z)
def lv (p : Ck × List Int) : PV := .l .fz p.1 p.2.length (p.2.map iv)
def tv (l : List UInt8) : PV := .v (.string (bs l))
def rows (l : List (Int × Int)) : List PV := l.flatMap fun p => [iv p.1,iv p.2]
theorem rows_len : ∀ {l : List (Int × Int)},(rows l).length = l.length * 2
 | [] => rfl
 | p :: l => by
  have := rows_len (l := l)
  simp only [rows,List.flatMap_cons,List.length_append,List.length_cons,List.length_nil] at this ⊢
  omega
theorem rows_nil : rows [] = [] := rfl
theorem rows_cons {p : Int × Int} {l : List (Int × Int)} : rows (p :: l) = iv p.1 :: iv p.2 :: rows l := rfl
section
variable {α : Type} {l l' r x : List α} {v y : α} {i z : Int} {n k : Nat} {f : α → PV}
def gI (l : List α) (i : Int) : Option α := match i with
 | .ofNat k => l[k]?
 | .negSucc _ => none
theorem gI_ok (hn : l.length = n) (h : gI l i = some y) : (∀ k,intIn n (.int k i) = some i.toNat) ∧ i.toNat < n ∧ Nat.ble (i.toNat + 1) n = true ∧ l[i.toNat]? = some y ∧ i = (i.toNat : Int) := by
 cases i with
 | negSucc k => cases h
 | ofNat k =>
  have h1 : k < l.length := (List.getElem?_eq_some_iff.1 h).1
  rw [hn] at h1
  exact ⟨fun _ => intIn_nat h1,h1,ble_true h1,h,rfl⟩
theorem gI_lit (hn : l.length = n) (h : gI l (k : Int) = some y) : (∀ j,intIn n (.int j (k : Int)) = some k) ∧ Nat.ble (k + 1) n = true ∧ l[k]? = some y :=
 have h1 := gI_ok hn h
 ⟨h1.1,h1.2.2.1,h1.2.2.2.1⟩
def sI (l : List α) (i : Int) (v : α) : Option (List α) := match i with
 | .ofNat k => match Nat.blt k l.length with
  | true => some (l.set k v)
  | false => none
 | .negSucc _ => none
theorem splice_set {off : Nat} {v : PV} {cs : List PV} (h : off < cs.length) : spliceP off [v] cs = some (cs.set off v) := by
 unfold spliceP
 rw [show Nat.ble (off + [v].length) cs.length = true from ble_true h]
 simp only []
 rw [List.set_eq_take_append_cons_drop,if_pos h]
 simp
theorem sI_ok (f : α → PV) (hn : l.length = n) (h : sI l i v = some x) : (∀ k,intIn n (.int k i) = some i.toNat) ∧ i.toNat < n ∧ x.length = n ∧ spliceP i.toNat [f v] (l.map f) = some (x.map f) ∧ x = l.set i.toNat v := by
 cases i with
 | negSucc k => cases h
 | ofNat k =>
  unfold sI at h
  cases hb : Nat.blt k l.length with
  | false => simp [hb] at h
  | true =>
   have h1 : k < l.length := Nat.le_of_ble_eq_true hb
   simp [hb] at h
   subst h
   rw [hn] at h1
   refine ⟨fun _ => intIn_nat h1,h1,by simpa using hn, ?_,rfl⟩
   rw [show (Int.ofNat k).toNat = k from rfl,splice_set (by simpa [hn] using h1)]
   simp
def app1 (l : List α) (v : α) : Option (List α) := match Nat.ble l.length 1000000 with
 | true => some (l ++ [v])
 | false => none
theorem app1_ok (f : α → PV) (h : app1 l v = some x) : l.length + 1 = x.length ∧ (∀ k,k ≤ 1000 → Nat.ble (x.length * k) limit = true) ∧ l.map f ++ [f v] = x.map f ∧ x = l ++ [v] := by
 unfold app1 at h
 cases hb : Nat.ble l.length 1000000 with
 | false => simp [hb] at h
 | true =>
  have h1 := Nat.le_of_ble_eq_true hb
  simp [hb] at h
  subst h
  refine ⟨by simp,fun k hk => ble_true ?_,by simp,rfl⟩
  rw [List.length_append,List.length_singleton]
  have : (l.length + 1) * k ≤ 1000001 * 1000 := Nat.mul_le_mul (by omega) hk
  unfold limit; omega
def mkN (z : Int) : Option Nat := match z with
 | .ofNat n => match Nat.ble n 1000000 with
  | true => some n
  | false => none
 | .negSucc _ => none
theorem mkN_ok (h : mkN z = some n) : z = (n : Int) ∧ (∀ k,k ≤ 1000 → Nat.ble (n * k) limit = true) ∧ Nat.ble n n = true := by
 cases z with
 | negSucc k => cases h
 | ofNat k =>
  unfold mkN at h
  cases hb : Nat.ble k 1000000 with
  | false => simp [hb] at h
  | true =>
   have h1 := Nat.le_of_ble_eq_true hb
   simp [hb] at h
   subst h
   refine ⟨rfl,fun j hj => ble_true ?_,ble_true (Nat.le_refl _)⟩
   have : k * j ≤ 1000000 * 1000 := Nat.mul_le_mul h1 hj
   unfold limit; omega
theorem reps_rep {v : α} : ∀ {n : Nat},reps [f v] n = (List.replicate n v).map f
 | 0 => rfl
 | n + 1 => by simp only [reps,reps_rep (n := n),List.replicate_succ]; rfl
theorem rep_len {v : α} {n : Nat} : (List.replicate n v).length = n := List.length_replicate
def gS (s : List UInt8) (i : Int) : Option Int := match i with
 | .ofNat k => match s[k]? with
  | some c => some (c.toNat : Int)
  | none => none
 | .negSucc _ => none
theorem gS_ok {P : Program} {t : TypeId} {s : List UInt8} {c : Int} {k : IntKind} (ht : P.underlying t = some .string) (hs : shapeOf P t = some .string) (h : gS s i = some c) : pqIndex P t (.v (.string (bs s))) (.int k i) = some (.v (.int .u8 c)) ∧ 0 ≤ c ∧ c < 256 := by
 cases i with
 | negSucc k => cases h
 | ofNat j =>
  unfold gS at h
  cases e : s[j]? with
  | none => simp [e] at h
  | some b =>
   simp [e] at h
   subst h
   have hj : j < (bs s).size := by rw [bs_size]; exact (List.getElem?_eq_some_iff.1 e).1
   have h1 := str_index (P := P) (t := t) ht (s := bs s) (k := k) (i := j) hj
   have h2 : (bs s)[j]'hj = b := by rw [bs_get]; exact (List.getElem?_eq_some_iff.1 e).2
   rw [h2] at h1
   refine ⟨?_,by omega,by have := b.toNat_lt; omega⟩
   unfold pqIndex
   rw [hs]
   show (match prunP P (Instr.index t (.string (bs s)) (.int k (j : Int))) with | some r => pvOf r | none => none) = _
   rw [h1]
   rfl
end
section
variable {α : Type} {l r x : List α} {n k : Nat} {f : α → PV}
end
def vlOf : Ck → Vl
 | .full => .fz
 | _ => .own
theorem ble_add {n a b : Nat} : Nat.ble (n + a) (n + b) = decide (a ≤ b) := by rw [nble]; congr 1; simp
theorem ble_add0 {n b : Nat} : Nat.ble n (n + b) = true := ble_true (by omega)
theorem beq_add {n a b : Nat} : Nat.beq (n + a) (n + b) = decide (a = b) := by rw [nbeq]; congr 1; simp
theorem beq_add0 {n b : Nat} : Nat.beq n (n + b) = decide (b = 0) := by rw [nbeq]; congr 1; simp
theorem beq_add1 {n b : Nat} : Nat.beq (n + b) n = decide (b = 0) := by rw [nbeq]; congr 1; simp
theorem ble_same {n : Nat} : Nat.ble n n = true := ble_true (Nat.le_refl _)
theorem ak_true : ak true = .bor := rfl
theorem ak_false : ak false = .fz := rfl
theorem argv_s {Y : Pol} {f : FuncId} {b o n c : Nat} {σ : St} : argv Y f (.s b o n c) σ = some (.s b o n c,σ,none) := rfl
theorem intIn2_0 : intIn 2 (.int .i64 0) = some 0 := rfl
theorem intIn2_1 : intIn 2 (.int .i64 1) = some 1 := rfl
theorem ble12 {n : Nat} : Nat.ble 1 (n + 1 + 1) = true := ble_true (by omega)
theorem ble22 {n : Nat} : Nat.ble 2 (n + 1 + 1) = true := ble_true (by omega)
def gN (n : Nat) : Option Unit := match Nat.ble n 1000000 with
 | true => some ()
 | false => none
theorem gN_ok {n : Nat} {u : Unit} (h : gN n = some u) : ∀ k,k ≤ 1000 → Nat.ble (n * k) limit = true := by
 unfold gN at h
 cases hb : Nat.ble n 1000000 with
 | false => simp [hb] at h
 | true =>
  intro k hk
  have h1 := Nat.le_of_ble_eq_true hb
  refine ble_true ?_
  have : n * k ≤ 1000000 * 1000 := Nat.mul_le_mul h1 hk
  unfold limit; omega
theorem max_int {P : Program} {ts : Array TypeId} {t : TypeId} {a b : Int} : prunP P (Builtin.max_ ts t #[.int .i64 a,.int .i64 b]) = some (.int .i64 (max a b)) := by
 unfold prunP Builtin.max_
 simp [Builtin.max2,prun_bnd,prun_pure]
 rw [show (if a < b then b else a) = max a b by rw [Int.max_def]; split <;> split <;> omega]
 rfl
theorem min_int {P : Program} {ts : Array TypeId} {t : TypeId} {a b : Int} : prunP P (Builtin.min_ ts t #[.int .i64 a,.int .i64 b]) = some (.int .i64 (min a b)) := by
 unfold prunP Builtin.min_
 simp [Builtin.min2,prun_bnd,prun_pure]
 rw [show (if b < a then b else a) = min a b by rw [Int.min_def]; split <;> split <;> omega]
 rfl
def gA (s : List UInt8) (k : Nat) : Option Nat := match s[k]? with
 | some c => match Nat.blt c.toNat 128 with
  | true => some c.toNat
  | false => none
 | none => none
theorem gA_ok {s : List UInt8} {k c : Nat} (h : gA s k = some c) : Utf8.decode (bs s) k = (c,1) := by
 unfold gA at h
 cases e : s[k]? with
 | none => simp [e] at h
 | some b =>
  cases hb : Nat.blt b.toNat 128 with
  | false => simp [e,hb] at h
  | true =>
   simp [e,hb] at h
   subst h
   have h1 : b.toNat < 128 := Nat.le_of_ble_eq_true hb
   have h2 : (bs s).get! k = b := by
    obtain ⟨hk,hk2⟩ := List.getElem?_eq_some_iff.1 e
    subst hk2
    simp [ByteArray.get!,hk]
   unfold Utf8.decode
   simp [h2,h1]
def wok (base : Nat) (w : Option Nat) : Prop := w = none ∨ ∃ k,w = some k ∧ base ≤ k
theorem wok_none {base : Nat} : wok base none := .inl rfl
theorem wok_low {base b : Nat} {w : Option Nat} (hw : wok base w) (hb : base ≤ b) : wok base (lowB w b) := by
 rcases hw with rfl | ⟨k,rfl,hk⟩
 ·exact .inr ⟨b,rfl,hb⟩
 ·exact .inr ⟨_,rfl,Nat.le_min.2 ⟨hk,hb⟩⟩
theorem wok_low_iff {base b : Nat} {w : Option Nat} : wok base (lowB w b) ↔ wok base w ∧ base ≤ b := by
 refine ⟨fun h => ?_,fun h => wok_low h.1 h.2⟩
 cases w with
 | none =>
  rcases h with h | ⟨k,h,hk⟩
  ·cases h
  ·cases h; exact ⟨.inl rfl,hk⟩
 | some a =>
  rcases h with h | ⟨k,h,hk⟩
  ·cases h
  ·cases h
   exact ⟨.inr ⟨a,rfl,(Nat.le_min.1 hk).1⟩,(Nat.le_min.1 hk).2⟩
theorem lowOf_none {base : Nat} : lowOf base none = none := rfl
theorem lowOf_wok {base : Nat} {w : Option Nat} (hw : wok base w) : lowOf base w = none := by
 rcases hw with rfl | ⟨k,rfl,hk⟩
 ·rfl
 ·show (match Nat.blt k base with | true => some k | false => none) = none
  rw [show Nat.blt k base = false from by rw [Nat.blt,nble]; exact decide_eq_false (by omega)]
section
variable {P : Program} {Y : Pol} {f : FuncId} {nt : Nat} {k : List Fm}
theorem loopS {V U ρ : Type} {S : (U → Option ρ) → Nat → V → Option ρ} {K : U → Option ρ} {r : ρ} {R : Option (PV × List (Option (List PV)) × Option Nat)} {g : FuncId} {rs : List ResultVar} {tys : List TypeId} {base id : Nat} {b : Code} {σ0 : St}
  (Fact : V → St → Prop) (FactO : U → St → Prop) {n0 : Nat} {v0 : V} (hz : ∀ v,S K 0 v = none) (h : S K n0 v0 = some r) (h0 : Fact v0 σ0)
  (hc : ∀ o σ,FactO o σ → K o = some r → ER P Y g rs tys base (EK P Y f nt k σ) = R)
  (hs : ∀ k' n v σ,Fact v σ → S K (n + 1) v = some r → (∀ v' σ',Fact v' σ' → S K n v' = some r → ER P Y g rs tys base (EK P Y f nt (.lp b :: .blk id :: k') σ') = R) →
   (∀ o σ',FactO o σ' → K o = some r → ER P Y g rs tys base (EK P Y f nt k' σ') = R) → ER P Y g rs tys base (EK P Y f nt (.c b :: .lp b :: .blk id :: k') σ) = R) :
  ER P Y g rs tys base (EK P Y f nt (.lp b :: .blk id :: k) σ0) = R := by
 induction n0 generalizing v0 σ0 with
 | zero => rw [hz] at h; cases h
 | succ n ih =>
  rw [EK_lp]
  exact hs k n v0 σ0 h0 h (fun v' σ' hf hh => ih hh hf) hc
end
end Go.Pur
set_option linter.unusedSimpArgs false
set_option linter.unusedVariables false
namespace Go.Pur
open Go.Abs
section
variable {P : Program} {t e : TypeId} {d n : Nat} {xs ys : Array Value} {x0 x1 y0 y1 v w : Value} {p q : Bool} {a b : Int} {x y : Operand}
end
end Go.Pur
set_option linter.unusedSimpArgs false
set_option linter.unusedVariables false
set_option linter.unusedSectionVars false
namespace Go.Pur
open Go.Abs
abbrev Mp (K V : Type) := List (K × V × Nat)
section
variable {K V : Type} [DecidableEq K] {P : Program}
def mGet (k : K) : Mp K V → Option V
 | [] => none
 | e :: l => match decide (e.1 = k) with
  | true => some e.2.1
  | false => mGet k l
def mSet (c : Nat) (k : K) (v : V) : Mp K V → Mp K V
 | [] => [(k,v,c)]
 | e :: l => match decide (e.1 = k) with
  | true => (k,v,e.2.2) :: l
  | false => e :: mSet c k v l
def mClk (c : Nat) (k : K) : Mp K V → Nat
 | [] => c + 1
 | e :: l => match decide (e.1 = k) with
  | true => c
  | false => mClk c k l
def mGetD (d : V) (k : K) (l : Mp K V) : V := (mGet k l).getD d
def mHas (k : K) (l : Mp K V) : Bool := (mGet k l).isSome
def mIdx (k : K) : Mp K V → Nat → Option (Nat × V)
 | [],_ => none
 | e :: l,i => match decide (e.1 = k) with
  | true => some (i,e.2.1)
  | false => mIdx k l (i + 1)
def mE (kf : K → Value) (vf : V → Value) (l : Mp K V) : List MapEntry := l.map fun e => ⟨kf e.1,vf e.2.1,e.2.2⟩
theorem mE_nil {kf : K → Value} {vf : V → Value} : mE kf vf [] = [] := rfl
theorem mE_len {kf : K → Value} {vf : V → Value} {l : Mp K V} : (mE kf vf l).length = l.length := by simp [mE]
theorem mIdx_get {k : K} : ∀ {l : Mp K V} {i : Nat},(mIdx k l i).map (·.2) = mGet k l
 | [],_ => rfl
 | e :: l,i => by
  unfold mIdx mGet
  split
  ·rfl
  ·exact mIdx_get
structure KeyT (P : Program) (kt : TypeId) (kf : K → Value) : Prop where
 chk : ∀ emp k,prun P (Instr.checkKey emp 10000 kt (kf k)) = some ()
 fnd : ∀ {W : Type} (vf : W → Value) (l : Mp K W) (k : K),prun P (Instr.findKey kt (kf k) (mE kf vf l)) = some ((mIdx k l 0).map fun p => (p.1,vf p.2))
 bits : ∀ k,Instr.sameBits 10000 (kf k) (kf k) = true
 plain : ∀ k,plainV (kf k) = true
theorem mIdx_none {k : K} : ∀ {l : Mp K V} {i : Nat},mIdx k l i = none → mGet k l = none ∧ (∀ c v,mSet c k v l = l ++ [(k,v,c)]) ∧ ∀ c,mClk c k l = c + 1
 | [],_,_ => ⟨rfl,fun _ _ => rfl,fun _ => rfl⟩
 | e :: l,i,h => by
  unfold mIdx at h
  split at h
  ·cases h
  ·rename_i he
   obtain ⟨a,b,c⟩ := mIdx_none h
   refine ⟨?_,fun x v => ?_,fun x => ?_⟩
   ·unfold mGet; rw [he]; exact a
   ·unfold mSet; rw [he]; simp [b]
   ·unfold mClk; rw [he]; exact c x
theorem mIdx_some {k : K} : ∀ {l : Mp K V} {i j : Nat} {v : V},mIdx k l i = some (j,v) → i ≤ j ∧ mGet k l = some v ∧ ∃ e,l[j - i]? = some e ∧ e.1 = k ∧ (∀ c u,mSet c k u l = l.set (j - i) (k,u,e.2.2)) ∧ ∀ c,mClk c k l = c
 | [],_,_,_,h => by cases h
 | e :: l,i,j,v,h => by
  unfold mIdx at h
  split at h
  ·rename_i he
   cases h
   refine ⟨Nat.le_refl _,by unfold mGet; rw [he],e,by simp,of_decide_eq_true he,fun c u => ?_,fun c => ?_⟩
   ·unfold mSet; rw [he]; simp
   ·unfold mClk; rw [he]
  ·rename_i he
   obtain ⟨h0,h1,e',h2,h3,h4,h5⟩ := mIdx_some h
   have hj : j - i = (j - (i + 1)) + 1 := by omega
   refine ⟨by omega,by unfold mGet; rw [he]; exact h1,e',by rw [hj]; simpa using h2,h3,fun c u => ?_,fun c => ?_⟩
   ·unfold mSet; rw [he,hj]; simp [h4]
   ·unfold mClk; rw [he]; exact h5 c
theorem find_m {kt : TypeId} {kf : K → Value} (hk : KeyT P kt kf) {emp : Bool} {vf : V → Value} {l : Mp K V} {k : K} : afind P kt emp (kf k) (mE kf vf l) = some ((mIdx k l 0).map fun p => (p.1,vf p.2)) := by
 unfold afind
 rw [hk.chk]
 exact hk.fnd vf l k
theorem look_m {t kt et : TypeId} {kf : K → Value} {vf : V → Value} {l : Mp K V} {k : K} {d : V} (hm : mapTy P t = some (kt,et)) (hk : KeyT P kt kf) (hz : azero P et = some (vf d)) (hp : ∀ v,plainV (vf v) = true) {ok : Bool} :
  alook P t (mE kf vf l) (kf k) ok = some (lookRes ok (vf (mGetD d k l)) (mHas k l)) := by
 unfold alook
 rw [hm]
 simp only [find_m hk]
 have hg := mIdx_get (k := k) (l := l) (i := 0)
 unfold mGetD mHas
 cases h : mIdx k l 0 with
 | none =>
  rw [h] at hg
  simp only [Option.map_none] at hg ⊢
  rw [← hg]
  simp only [hz,hp,Option.getD_none,Option.isSome_none]
 | some p =>
  rw [h] at hg
  simp only [Option.map_some] at hg ⊢
  rw [← hg]
  simp only [hp,Option.getD_some,Option.isSome_some]
theorem upd_m {t kt et : TypeId} {kf : K → Value} {vf : V → Value} {l : Mp K V} {k : K} {v : V} {c : Nat} (hm : mapTy P t = some (kt,et)) (hk : KeyT P kt kf) :
  aupd P t (mE kf vf l) c (kf k) (vf v) = some (mE kf vf (mSet c k v l),mClk c k l) := by
 unfold aupd
 rw [hm]
 simp only [find_m hk]
 cases h : mIdx k l 0 with
 | none =>
  obtain ⟨_,h2,h3⟩ := mIdx_none h
  simp only [Option.map_none,h2,h3]
  simp [mE]
 | some p =>
  obtain ⟨i,u⟩ := p
  obtain ⟨_,_,e,h2,h3,h4,h5⟩ := mIdx_some h
  simp only [Nat.sub_zero] at h2 h4
  have he : (mE kf vf l)[i]? = some ⟨kf e.1,vf e.2.1,e.2.2⟩ := by simp [mE,h2]
  simp only [Option.map_some,he,h3,hk.bits,h4,h5]
  congr 2
  simp only [mE,List.map_set]
theorem key_now {kt : TypeId} {d : TypeDesc} {kf : K → Value} (hu : P.underlying kt = some d) (hs : ∀ a b,Instr.sameNow d (kf a) (kf b) = some (decide (b = a))) (hb : ∀ k,Instr.sameBits 10000 (kf k) (kf k) = true) (hp : ∀ k,plainV (kf k) = true) (hc : ∀ emp k,prun P (Instr.checkKey emp 10000 kt (kf k)) = some ()) : KeyT P kt kf := by
 refine ⟨hc,fun {W} vf l k => ?_,hb,hp⟩
 have hn : ∀ (l : Mp K W) i,Instr.findNow d (kf k) (mE kf vf l) i = some ((mIdx k l i).map fun p => (p.1,vf p.2)) := by
  intro l
  induction l with
  | nil => intro i; rfl
  | cons e l ih =>
   intro i
   show Instr.findNow d (kf k) (⟨kf e.1,vf e.2.1,e.2.2⟩ :: mE kf vf l) i = _
   unfold Instr.findNow mIdx
   rw [hs]
   cases decide (e.1 = k) with
   | true => rfl
   | false => exact ih (i + 1)
 unfold Instr.findKey
 rw [prun_bind _ _ (prun_und hu),hn]
 rfl
theorem key_int {kt : TypeId} {k : IntKind} (hu : P.underlying kt = some (.int k)) : KeyT P kt (Value.int k) := by
 refine key_now hu (fun a b => ?_) (fun z => ?_) (fun _ => rfl) (fun emp z => ?_)
 ·simp only [Instr.sameNow,if_true]
  congr 1
  by_cases h : a = b
  ·subst h; simp
  ·have h1 : ¬ b = a := fun e => h e.symm
   simp only [h1,decide_false]
   exact beq_eq_false_iff_ne.2 h
 ·show (k == k && z == z) = true
  simp
 ·show prun P (Instr.checkKey emp (9999 + 1) kt _) = _
  unfold Instr.checkKey
  rw [prun_bind _ _ (prun_und hu)]
  rfl
end
section
variable {P : Program}
end
end Go.Pur
set_option linter.unusedSimpArgs false
set_option linter.unusedVariables false
namespace Go.Proofs.YtmnmfmghmenkkaaDoor
open Go.Abs Go.Pur
def letW (c : UInt8) : Bool := decide (97 ≤ c.toNat) && decide (c.toNat < 103)
def checkW (l : List UInt8) : Int := if 10 < l.length then 19 else if l.all letW then 0 else 10
def abc : List UInt8 := [97,98,99,100,101,102]
def lt (k : Int) (c : UInt8) : UInt8 := abc.getD ((c.toNat : Int).tmod k).toNat 0
def mvOf (f t : Nat) : Bool := false
def e17 : List KA → Option (List KR)
 | [] => some [.p (.bool true)]
 | _ => none
def extN : Nat → List KA → Option (List KR)
 | 12 => e17
 | _ => fun _ => none
def yesOf (g : FuncId) : Bool := Nat.beq g 12
def extOf (g : FuncId) : List PV → List (Option (List PV)) → Option (PV × List (Option (List PV)) × Option Nat) := libP (extN g)
def Y0 : Pol := { keep := keepOf,glob := [],mv := mvOf,yes := yesOf,ext := extOf }
theorem works_is {hp : List (Option (List PV))} : E Tryd.prog Y0 12 [] hp = some (.v (.bool true),hp,none) := E_known rfl rfl
def fzmOf (f t : Nat) : Bool := false
theorem Y0_fzm {f t : Nat} : Y0.fzm f t = fzmOf f t := rfl
theorem Y0_keep {f t : Nat} : Y0.keep f t = keepOf f t := rfl
def howOf (f g : Nat) : List (Bool × Nat) := []
def partOf (f : Nat) : List (Bool × Nat) := []
theorem Y0_how {f g : Nat} : Y0.how f g = howOf f g := rfl
theorem Y0_mv {f t : Nat} : Y0.mv f t = mvOf f t := rfl
theorem Y0_part {f : Nat} : Y0.part f = partOf f := rfl
end Go.Proofs.YtmnmfmghmenkkaaDoor
namespace Go.Proofs
open Go.Shelf
def Tryd.lays169_ren : Go.Shelf.Ren := ⟨fun | 169 => 20 | n => n,fun | 70 => 41 | 9 => 9 | 0 => 0 | 72 => 43 | 37 => 26 | 127 => 78 | 3 => 3 | 5 => 5 | n => n,fun | n => n⟩
theorem Tryd.lays169 : Go.Proofs.Lays.n169 Tryd.prog Tryd.lays169_ren := {
 mixed := by kernel_rfl
 f169 := Tryd.func20.trans (congrArg some (by kernel_rfl))
 t0 := Tryd.underlying0
 a0 := Tryd.isAgg0
 z0 := Tryd.sizeOf0
 v0 := Tryd.zeroValue0
 t3 := Tryd.underlying3
 a3 := Tryd.isAgg3
 z3 := Tryd.sizeOf3
 v3 := Tryd.zeroValue3
 t9 := Tryd.underlying9
 a9 := Tryd.isAgg9
 z9 := Tryd.sizeOf9
 v9 := Tryd.zeroValue9
 t37 := Tryd.underlying26
 a37 := Tryd.isAgg26
 z37 := Tryd.sizeOf26
 v37 := Tryd.zeroValue26
 t70 := Tryd.underlying41
 a70 := Tryd.isAgg41
 z70 := Tryd.sizeOf41
 v70 := Tryd.zeroValue41
 t72 := Tryd.underlying43
 a72 := Tryd.isAgg43
 z72 := Tryd.sizeOf43
 v72 := Tryd.zeroValue43
 t127 := Tryd.underlying78
 a127 := Tryd.isAgg78
 z127 := Tryd.sizeOf78
 v127 := Tryd.zeroValue78 }
theorem Tryd.Builder_Extra_169 : Builder.Extra Tryd.prog Tryd.lays169_ren := {
 sizeBuilder := by kernel_rfl
 liesBuilder := by kernel_rfl
 t5 := Tryd.underlying5
 a5 := Tryd.isAgg5
 z5 := Tryd.sizeOf5
 v5 := Tryd.zeroValue5
 infoByte := by kernel_rfl
 cellsByte := by kernel_rfl
 sizeByte := by kernel_rfl
 neB5 := by decide }
def Tryd.lays241_ren : Go.Shelf.Ren := ⟨fun | 241 => 39 | 277 => 49 | n => n,fun | 70 => 41 | 3 => 3 | 0 => 0 | 72 => 43 | 37 => 26 | 5 => 5 | n => n,fun | n => n⟩
theorem Tryd.lays241 : Go.Proofs.Lays.n241 Tryd.prog Tryd.lays241_ren := {
 mixed := by kernel_rfl
 f241 := Tryd.func39.trans (congrArg some (by kernel_rfl))
 f277 := Tryd.func49.trans (congrArg some (by kernel_rfl))
 t0 := Tryd.underlying0
 a0 := Tryd.isAgg0
 z0 := Tryd.sizeOf0
 v0 := Tryd.zeroValue0
 t3 := Tryd.underlying3
 a3 := Tryd.isAgg3
 z3 := Tryd.sizeOf3
 v3 := Tryd.zeroValue3
 t37 := Tryd.underlying26
 a37 := Tryd.isAgg26
 z37 := Tryd.sizeOf26
 v37 := Tryd.zeroValue26
 t70 := Tryd.underlying41
 a70 := Tryd.isAgg41
 z70 := Tryd.sizeOf41
 v70 := Tryd.zeroValue41
 t72 := Tryd.underlying43
 a72 := Tryd.isAgg43
 z72 := Tryd.sizeOf43
 v72 := Tryd.zeroValue43 }
theorem Tryd.Builder_Extra_241 : Builder.Extra Tryd.prog Tryd.lays241_ren := {
 sizeBuilder := by kernel_rfl
 liesBuilder := by kernel_rfl
 t5 := Tryd.underlying5
 a5 := Tryd.isAgg5
 z5 := Tryd.sizeOf5
 v5 := Tryd.zeroValue5
 infoByte := by kernel_rfl
 cellsByte := by kernel_rfl
 sizeByte := by kernel_rfl
 neB5 := by decide }
def Tryd.lays118_ren : Go.Shelf.Ren := ⟨fun | 118 => 14 | n => n,fun | 21 => 21 | 3 => 3 | 4 => 4 | n => n,fun | n => n⟩
theorem Tryd.lays118 : Go.Proofs.Lays.n118 Tryd.prog Tryd.lays118_ren := {
 mixed := by kernel_rfl
 f118 := Tryd.func14.trans (congrArg some (by kernel_rfl))
 t3 := Tryd.underlying3
 a3 := Tryd.isAgg3
 z3 := Tryd.sizeOf3
 v3 := Tryd.zeroValue3
 t4 := Tryd.underlying4
 a4 := Tryd.isAgg4
 z4 := Tryd.sizeOf4
 v4 := Tryd.zeroValue4
 t21 := Tryd.underlying21
 a21 := Tryd.isAgg21
 z21 := Tryd.sizeOf21
 v21 := Tryd.zeroValue21 }
theorem Tryd.utf8_RuneLen (r : Int) (w : World) :
  Calls Tryd.prog 14 #[.int .i32 r] w fun e w' => e = .returned (.int .i64 (Lib.runeLen r)) ∧ w' = w := Any.utf8_RuneLen Tryd.lays118 r w
end Go.Proofs
set_option linter.unusedSimpArgs false
set_option linter.unusedVariables false
namespace Go.Proofs.YtmnmfmghmenkkaaDoor
open Go.RowKit
set_option maxRecDepth 100000
set_option maxHeartbeats 2000000
theorem sizeBuilder : ∃ j,Tryd.prog.info? 43 = some j ∧ j.size = 2 := Option.map_eq_some_iff.1 Tryd.Builder_Extra_169.sizeBuilder
theorem copyCheck_used (b : Nat) (w : World) (h0 : w.cell? ⟨b,0,none⟩ = some (.pointer (some ⟨b,0,none⟩))) :
  Calls Tryd.prog 38 #[.pointer (some ⟨b,0,none⟩)] w fun e w' => e = .returned (.tuple #[]) ∧ w' = w := by
 obtain ⟨j,hj,_⟩ := sizeBuilder
 go_enter Tryd.func38,Tryd.ntmps38
 go_wp2
 rw [Lib.run_neq_ptr_same w _ Tryd.underlying41 hj]
 go_wp2
 go_end0
 exact ⟨rfl,rfl⟩
theorem copyCheck_fresh (b : Nat) (w : World) (h0 : w.cell? ⟨b,0,none⟩ = some (.pointer none)) (hsh : w.shape? b = some (43,2)) (hfz : w.frozen? ⟨b,0,none⟩ = false) :
  Calls Tryd.prog 38 #[.pointer (some ⟨b,0,none⟩)] w fun e w' => e = .returned (.tuple #[]) ∧ w' = w.setCell ⟨b,0,none⟩ (.pointer (some ⟨b,0,none⟩)) := by
 obtain ⟨j,hj,hjs⟩ := sizeBuilder
 go_enter Tryd.func38,Tryd.ntmps38
 go_wp2
 rw [Lib.run_to_unsafe w ⟨b,0,none⟩ Tryd.underlying41 Tryd.underlying94 hj (by rw [hjs]; decide) hsh (Nat.zero_lt_succ 1)]
 simp only [Result.andThen]
 rw [Oper.upon_value]
 go_wp2
 rw [run_callFunc_extern Tryd.func48 (by kernel_rfl) (by kernel_rfl) (by kernel_rfl) (e := Extern.AbiNoEscape.same) (by kernel_rfl)]
 rw [Lib.run_noEscape]
 simp only [Result.andThen]
 rw [Oper.upon_value]
 go_wp2
 rw [Lib.run_from_unsafe w ⟨b,0,none⟩ Tryd.underlying94 Tryd.underlying41 hj hsh Tryd.Builder_Extra_169.liesBuilder]
 simp only [Result.andThen]
 rw [Oper.upon_value]
 go_wp2
 go_end0
 exact ⟨rfl,rfl⟩
theorem copyCheckK (B b : Nat) (bs : List Value) (w : World) (h : Lib.IsBuilderF 43 5 B b bs w) :
  Calls Tryd.prog 38 #[.pointer (some ⟨b,0,none⟩)] w fun e w' => e = .returned (.tuple #[]) ∧ (Lib.BuilderAtF 43 5 B b (.pointer (some ⟨b,0,none⟩)) bs w' ∧ Below B w w' ∧ Lib.OthersKept 5 (some b) w w') := by
 rcases h with h | h
 ·refine (copyCheck_fresh b w h.cell0 h.shape h.frozen0).mono ?_
  rintro e w' ⟨rfl,rfl⟩
  exact ⟨rfl,h.used _,(Below.refl B w).setCell (p := ⟨b,0,none⟩) h.1 _,(Lib.OthersKept.refl _ _ w).setCell ⟨b,0,none⟩ rfl _⟩
 ·refine (copyCheck_used b w h.cell0).mono ?_
  rintro e w' ⟨rfl,rfl⟩
  exact ⟨rfl,h,Below.refl B _,Lib.OthersKept.refl _ _ _⟩
theorem writeByteK (B b : Nat) (bs : List Value) (c : Int) (w : World) (h : Lib.IsBuilderF 43 5 B b bs w) (hlen : bs.length + 1 ≤ 140737488355328) (hBw : B ≤ w.heap.size) :
  Calls Tryd.prog 19 #[.pointer (some ⟨b,0,none⟩),.int .u8 c] w fun e w' => e = .returned .nilIface ∧ (Lib.BuilderAtF 43 5 B b (.pointer (some ⟨b,0,none⟩)) (bs ++ [.int .u8 c]) w' ∧ Below B w w' ∧ Lib.OthersKept 5 (some b) w w') := by
 obtain ⟨i0,hi,hz0,hz1,hz2⟩ := info_parts Tryd.Builder_Extra_169.infoByte
 go_enter Tryd.func19,Tryd.ntmps19
 go_wp2_with (go_at_call 38; refine (copyCheckK B b bs _ h).mono ?_)
 rintro e w1 ⟨rfl,h1,hb1,hk1⟩
 obtain ⟨hB,v,hbk,hown,hne⟩ := h1
 have c0 : w1.cell? ⟨b,0,none⟩ = some (.pointer (some ⟨b,0,none⟩)) := by rw [Lib.cell_of_heap hbk]; rfl
 have c1 : w1.cell? ⟨b,1,none⟩ = some v := by rw [Lib.cell_of_heap hbk]; rfl
 go_wp2_with (at_builtin; refine wpList_append_ownF _ rfl _ _ 26 rfl B 5 i0 (.int .u8 0) 1 1 Tryd.underlying26 hi hz0 hz1 hz2 rfl (by decide) _ _ _ rfl (hown.alloc _) ⟨w1.heap.size,0,none⟩ 1 1 [.int .u8 c] rfl rfl ?c1 ?c2 ?c3 ?c4 ?c5 ?_)
 case c1 =>
  intro j u hj
  match j,hj with
  | 0,hj => simp at hj; subst hj; simp [Addr.add]
 case c2 => intro u hu; simp at hu; subst hu; rfl
 case c3 => unfold maxLen; omega
 case c4 => omega
 case c5 => have := hb1.size; simp; omega
 intro v' w2 hown' hgrow _
 have hlt : b < w1.heap.size := by
  rcases Nat.lt_or_ge b w1.heap.size with h' | h'
  ·exact h'
  ·simp [Array.getElem?_eq_none h'] at hbk
 have hb2 : w2.heap[b]? = some (.cells #[.pointer (some ⟨b,0,none⟩),v] 43 (0,0)) := by
  rw [hgrow.block b (by simp; omega) (fun e => hne e.symm),Lib.alloc_old w1 _ b hlt]
  exact hbk
 have d0 : w2.cell? ⟨b,0,none⟩ = some (.pointer (some ⟨b,0,none⟩)) := by rw [Lib.cell_of_heap hb2]; rfl
 have d1 : w2.cell? ⟨b,1,none⟩ = some v := by rw [Lib.cell_of_heap hb2]; rfl
 have f1 : w2.frozen? ⟨b,1,none⟩ = false := Lib.frozen_of_heap hb2 1
 obtain ⟨g,cap,rfl⟩ : ∃ g cap,v' = .slice (some ⟨g,0,none⟩) (bs.length + 1) cap := by
  rcases hown'.2 with ⟨_,h0⟩ | ⟨g,cap,cur,fz,hv,_⟩
  ·omega
  ·exact ⟨g,cap,hv⟩
 go_wp2
 go_ret
 refine ⟨rfl, ?_, ?_,((hk1.alloc _).grown hgrow (Lib.ownsRowF_kind (hown.alloc _))).setCell ⟨b,1,none⟩ rfl _⟩
 ·exact Lib.BuilderAtF.put (T := 43) (e := 5) hB hb2 (bs' := bs ++ [.int .u8 c]) (by simpa using hown') Tryd.Builder_Extra_169.neB5
 ·exact ((hb1.alloc (by have := hb1.size; omega) _).grown hgrow (by have := hb1.size; simp; omega) (fun k hk => (hown.lt k hk).1)).setCell (p := ⟨b,1,none⟩) hB _
theorem stringK (B b : Nat) (l : List UInt8) (w : World) (h : Lib.IsBuilderF 43 5 B b (Lib.byteCells l) w) (hBw : B ≤ w.heap.size) :
  Calls Tryd.prog 20 #[.pointer (some ⟨b,0,none⟩)] w fun e w' => e = .returned (.string ⟨l.toArray⟩) ∧ (Lib.IsBuilderF 43 5 B b (Lib.byteCells l) w' ∧ Below B w w') := Any.Builder_String_any_f Tryd.lays169 Tryd.Builder_Extra_169 B b l w h hBw
theorem growB (B b n : Nat) (w : World) (hB : B ≤ b) (hbk : w.heap[b]? = some (.cells #[.pointer (some ⟨b,0,none⟩),.slice none 0 0] 43 (0,0))) (hBw : B ≤ w.heap.size) (hn : n ≤ 281474976710656) :
  Calls Tryd.prog 39 #[.pointer (some ⟨b,0,none⟩),.int .i64 n] w fun e w' => e = .returned (.tuple #[]) ∧ (Lib.BuilderAt 43 5 B b (.pointer (some ⟨b,0,none⟩)) [] w' ∧ Below B w w') :=
 Any.Builder_grow_fresh Tryd.lays241 Tryd.Builder_Extra_241 B b n w hB hbk hBw hn
theorem growBuilder (B b n : Nat) (w : World) (hB : B ≤ b) (hbk : w.heap[b]? = some (.cells #[.pointer none,.slice none 0 0] 43 (0,0))) (hBw : B ≤ w.heap.size) (hn : n ≤ 281474976710656) :
  Calls Tryd.prog 15 #[.pointer (some ⟨b,0,none⟩),.int .i64 n] w fun e w' => e = .returned (.tuple #[]) ∧ (Lib.BuilderAt 43 5 B b (.pointer (some ⟨b,0,none⟩)) [] w' ∧ Below B w w') := by
 have hbk1 : (w.setCell ⟨b,0,none⟩ (.pointer (some ⟨b,0,none⟩))).heap[b]? = some (.cells #[.pointer (some ⟨b,0,none⟩),.slice none 0 0] 43 (0,0)) := by
  simp [World.setCell,Array.getElem?_modify,hbk]
 have c1 : (w.setCell ⟨b,0,none⟩ (.pointer (some ⟨b,0,none⟩))).cell? ⟨b,1,none⟩ = some (.slice none 0 0) := by rw [Lib.cell_of_heap hbk1]; rfl
 have hb1 : Below B w (w.setCell ⟨b,0,none⟩ (.pointer (some ⟨b,0,none⟩))) := (Below.refl B w).setCell (p := ⟨b,0,none⟩) hB _
 have mixed : Tryd.prog.follows .mixedOrders = true := by kernel_rfl
 go_enter Tryd.func15,Tryd.ntmps15
 have hU : Lib.BuilderAt 43 5 B b (.pointer (some ⟨b,0,none⟩)) [] (w.setCell ⟨b,0,none⟩ (.pointer (some ⟨b,0,none⟩))) := ⟨hB,.slice none 0 0,hbk1,World.ownsRow_nil _ _ _ _,by simp [Value.ownBlock]⟩
 have c1' : (w.setCell ⟨b,0,none⟩ (.pointer (some ⟨b,0,none⟩))).drew.cell? ⟨b,1,none⟩ = some (.slice none 0 0) := c1
 go_wp2_with (go_at_call 38; refine (copyCheck_fresh b w (by rw [Lib.cell_of_heap hbk]; rfl) (by simp [World.shape?,hbk]) (Lib.frozen_of_heap hbk 0)).mono ?_; rintro e w' ⟨rfl,rfl⟩)
 go_region_o
 all_goals go_wp2_with (go_at_call 39; refine (growB B b n (w.setCell ⟨b,0,none⟩ (.pointer (some ⟨b,0,none⟩))).drew hB hbk1 (by simpa [World.setCell,World.drew,-World.drew_eq] using hBw) hn).mono ?_; rintro e w' ⟨rfl,h1,h2⟩)
 all_goals first
  | (go_end0; exact ⟨rfl,h1,hb1.drew.trans h2⟩)
  | (go_end0; exact ⟨rfl,hU.drew,hb1.drew⟩)
theorem writeStringK (B b : Nat) (bs : List Value) (s : ByteArray) (w : World) (h : Lib.IsBuilderF 43 5 B b bs w) (hlen : bs.length + s.size ≤ 140737488355328) (hBw : B ≤ w.heap.size) :
  Calls Tryd.prog 16 #[.pointer (some ⟨b,0,none⟩),.string s] w fun e w' => e = .returned (.tuple #[.int .i64 s.size,.nilIface]) ∧ (Lib.BuilderAtF 43 5 B b (.pointer (some ⟨b,0,none⟩)) (bs ++ Lib.strCells s) w' ∧ Below B w w' ∧ Lib.OthersKept 5 (some b) w w') := by
 obtain ⟨i0,hi,hz0,hz1,hz2⟩ := info_parts Tryd.Builder_Extra_169.infoByte
 go_enter Tryd.func16,Tryd.ntmps16
 go_wp2_with (go_at_call 38; refine (copyCheckK B b bs _ h).mono ?_)
 rintro e w1 ⟨rfl,h1,hb1,hk1⟩
 obtain ⟨hB,v,hbk,hown,hne⟩ := h1
 have c0 : w1.cell? ⟨b,0,none⟩ = some (.pointer (some ⟨b,0,none⟩)) := by rw [Lib.cell_of_heap hbk]; rfl
 have c1 : w1.cell? ⟨b,1,none⟩ = some v := by rw [Lib.cell_of_heap hbk]; rfl
 go_wp2_with (at_builtin; refine Lib.wpList_append_own_stringF _ rfl _ _ 26 9 rfl B 5 i0 Tryd.underlying26 Tryd.underlying9 hi hz0 hz1 hz2 _ _ _ rfl hown s rfl ?c3 ?c4 ?c5 ?_)
 case c3 => unfold maxLen; omega
 case c4 => omega
 case c5 => have := hb1.size; omega
 intro v' w2 hown' hgrow _
 have hlt : b < w1.heap.size := by
  rcases Nat.lt_or_ge b w1.heap.size with h' | h'
  ·exact h'
  ·simp [Array.getElem?_eq_none h'] at hbk
 have hb2 : w2.heap[b]? = some (.cells #[.pointer (some ⟨b,0,none⟩),v] 43 (0,0)) := by
  rw [hgrow.block b hlt (fun e => hne e.symm)]
  exact hbk
 have d0 : w2.cell? ⟨b,0,none⟩ = some (.pointer (some ⟨b,0,none⟩)) := by rw [Lib.cell_of_heap hb2]; rfl
 have d1 : w2.cell? ⟨b,1,none⟩ = some v := by rw [Lib.cell_of_heap hb2]; rfl
 have f1 : w2.frozen? ⟨b,1,none⟩ = false := Lib.frozen_of_heap hb2 1
 obtain ⟨ao,n',cap,rfl⟩ : ∃ ao n' cap,v' = .slice ao n' cap := by
  rcases hown'.2 with ⟨hv,_⟩ | ⟨g,cap,cur,fz,hv,_⟩
  ·exact ⟨_,_,_,hv⟩
  ·exact ⟨_,_,_,hv⟩
 go_wp2
 go_ret2
 refine ⟨rfl, ?_, ?_,(hk1.grown hgrow (Lib.ownsRowF_kind hown)).setCell ⟨b,1,none⟩ rfl _⟩
 ·exact Lib.BuilderAtF.put (T := 43) (e := 5) hB hb2 (bs' := bs ++ Lib.strCells s) (by simpa [Lib.strCells_length] using hown') Tryd.Builder_Extra_169.neB5
 ·exact (hb1.grown hgrow (by have := hb1.size; omega) (fun k hk => (hown.lt k hk).1)).setCell (p := ⟨b,1,none⟩) hB _
theorem capBuilder (b : Nat) (p : Option Addr) (n cap : Nat) (w : World) (c1 : w.cell? ⟨b,1,none⟩ = some (.slice p n cap)) :
  Calls Tryd.prog 18 #[.pointer (some ⟨b,0,none⟩)] w fun e w' => e = .returned (.int .i64 cap) ∧ w' = w := by
 go_enter Tryd.func18,Tryd.ntmps18
 go_wp2
 go_ret
 exact ⟨rfl,rfl⟩
theorem appendRuneK (B : Nat) (v : Value) (bs : List Value) (r : Nat) (hr : r ≤ 127) (w : World) (hown : w.ownsRowF B 5 1 v bs.length bs) (hlen : bs.length + 1 ≤ 140737488355328) (hBw : B ≤ w.heap.size) :
  Calls Tryd.prog 40 #[v,.int .i32 r] w fun e w' => ∃ v',e = .returned v' ∧ w'.ownsRowF B 5 1 v' (bs.length + 1) (bs ++ [.int .u8 r]) ∧ ∃ o,(w.alloc o).grownBy w' v.ownBlock := by
 obtain ⟨i0,hi,hz0,hz1,hz2⟩ := info_parts Tryd.Builder_Extra_169.infoByte
 have u32 : IntKind.u32.wrap (r : Int) = r := by rw [IntWalk.u32_in] <;> omega
 have u8 : IntKind.u8.wrap (r : Int) = r := by rw [IntWalk.u8_in] <;> omega
 have hle : (r : Int) ≤ 127 := by omega
 go_enter Tryd.func40,Tryd.ntmps40
 go_wp2_with (at_builtin; refine wpList_append_ownF _ rfl _ _ 26 rfl B 5 i0 (.int .u8 0) 1 1 Tryd.underlying26 hi hz0 hz1 hz2 rfl (by decide) _ _ _ rfl (hown.alloc _) ⟨w.heap.size,0,none⟩ 1 1 [.int .u8 r] rfl rfl ?c1 ?c2 ?c3 ?c4 ?c5 ?_)
 case c1 =>
  intro j u hj
  match j,hj with
  | 0,hj => simp at hj; subst hj; simp [Addr.add]
 case c2 => intro u hu; simp at hu; subst hu; rfl
 case c3 => unfold maxLen; omega
 case c4 => omega
 case c5 => simp; omega
 intro v' w2 hown' hgrow _
 obtain ⟨g,cap,rfl⟩ : ∃ g cap,v' = .slice (some ⟨g,0,none⟩) (bs.length + 1) cap := by
  rcases hown'.2 with ⟨_,h0⟩ | ⟨g,cap,cur,fz,hv,_⟩
  ·omega
  ·exact ⟨g,cap,hv⟩
 go_wp2
 go_ret
 exact ⟨_,rfl,by simpa using hown',_,hgrow⟩
theorem writeRuneK (B b : Nat) (bs : List Value) (r : Nat) (hr : r ≤ 127) (w : World) (h : Lib.IsBuilderF 43 5 B b bs w) (hlen : bs.length + 1 ≤ 140737488355328) (hBw : B ≤ w.heap.size) :
  Calls Tryd.prog 17 #[.pointer (some ⟨b,0,none⟩),.int .i32 r] w fun e w' => e = .returned (.tuple #[.int .i64 1,.nilIface]) ∧ (Lib.BuilderAtF 43 5 B b (.pointer (some ⟨b,0,none⟩)) (bs ++ [.int .u8 r]) w' ∧ Below B w w' ∧ Lib.OthersKept 5 (some b) w w') := by
 have mixed : Tryd.prog.follows .mixedOrders = true := by kernel_rfl
 go_enter Tryd.func17,Tryd.ntmps17
 go_wp2_with (go_at_call 38; refine (copyCheckK B b bs _ h).mono ?_)
 rintro e w1 ⟨rfl,h1,hb1,hk1⟩
 obtain ⟨hB,v,hbk,hown,hne⟩ := h1
 obtain ⟨ao,cap,rfl⟩ : ∃ ao cap,v = .slice ao bs.length cap := by
  rcases hown.2 with ⟨hv,h0⟩ | ⟨g,cap,cur,fz,hv,_⟩
  ·exact ⟨none,0,by rw [hv,h0]⟩
  ·exact ⟨_,_,hv⟩
 have c0 : w1.cell? ⟨b,0,none⟩ = some (.pointer (some ⟨b,0,none⟩)) := by rw [Lib.cell_of_heap hbk]; rfl
 have c1 : w1.cell? ⟨b,1,none⟩ = some (.slice ao bs.length cap) := by rw [Lib.cell_of_heap hbk]; rfl
 go_wp2_with (go_at_call 40; refine (appendRuneK B _ bs r hr _ hown hlen (by have := hb1.size; omega)).mono ?_)
 rintro e w2 ⟨v',rfl,hown',o,hgrow⟩
 have hlt : b < w1.heap.size := by
  rcases Nat.lt_or_ge b w1.heap.size with h' | h'
  ·exact h'
  ·simp [Array.getElem?_eq_none h'] at hbk
 have hb2 : w2.heap[b]? = some (.cells #[.pointer (some ⟨b,0,none⟩),.slice ao bs.length cap] 43 (0,0)) := by
  rw [hgrow.block b (by simp; omega) (fun e => hne e.symm),Lib.alloc_old w1 _ b hlt]
  exact hbk
 have d0 : w2.cell? ⟨b,0,none⟩ = some (.pointer (some ⟨b,0,none⟩)) := by rw [Lib.cell_of_heap hb2]; rfl
 have d1 : w2.cell? ⟨b,1,none⟩ = some (.slice ao bs.length cap) := by rw [Lib.cell_of_heap hb2]; rfl
 have f1 : w2.frozen? ⟨b,1,none⟩ = false := Lib.frozen_of_heap hb2 1
 obtain ⟨g,cap',rfl⟩ : ∃ g cap',v' = .slice (some ⟨g,0,none⟩) (bs.length + 1) cap' := by
  rcases hown'.2 with ⟨_,h0⟩ | ⟨g,cap',cur,fz,hv,_⟩
  ·omega
  ·exact ⟨g,cap',hv⟩
 have h3 := Lib.BuilderAtF.put (T := 43) (e := 5) hB hb2 (bs' := bs ++ [.int .u8 r]) (by simpa using hown') Tryd.Builder_Extra_169.neB5
 have hb3 := ((hb1.alloc (by have := hb1.size; omega) o).grown hgrow (by have := hb1.size; simp; omega) (fun k hk => (hown.lt k hk).1)).setCell (p := ⟨b,1,none⟩) hB (.slice (some ⟨g,0,none⟩) (bs.length + 1) cap')
 go_wp2
 have e2 : (bs.length : Int) + 1 - (bs.length : Int) = 1 := by omega
 rw [e2]
 go_ret2
 exact ⟨rfl,h3,hb3,((hk1.alloc o).grown hgrow (Lib.ownsRowF_kind (hown.alloc _))).setCell ⟨b,1,none⟩ rfl _⟩
end Go.Proofs.YtmnmfmghmenkkaaDoor
set_option linter.unusedSimpArgs false
set_option linter.unusedVariables false
namespace Go.Proofs.YtmnmfmghmenkkaaDoor
open Go.RowKit
set_option maxRecDepth 100000
set_option maxHeartbeats 1000000
theorem hid {p : Prop} (h : p) : Hid p := h
theorem abc_get (i : Nat) (h : i < (ByteArray.mk #[97,98,99,100,101,102]).size) : (ByteArray.mk #[97,98,99,100,101,102])[i] = abc.getD i 0 := by
 have h6 : i < 6 := h
 match i,h6 with
 | 0,_ | 1,_ | 2,_ | 3,_ | 4,_ | 5,_ => rfl
theorem wrap_u8 (c : UInt8) : wrap64 (c.toNat : Int) = c.toNat := by
 have := c.toNat_lt
 rw [IntWalk.wrap64_in] <;> omega
theorem idx (c : UInt8) (k : Int) (h : ((wrap64 (c.toNat : Int)).tmod k).toNat < (ByteArray.mk #[97,98,99,100,101,102]).size) : (ByteArray.mk #[97,98,99,100,101,102])[((wrap64 (c.toNat : Int)).tmod k).toNat]'h = lt k c := by
 rw [abc_get]
 unfold lt
 rw [wrap_u8]
theorem tmod_lt (a : Nat) (k : Nat) (hk : 1 ≤ k) (h6 : k ≤ 6) : 0 ≤ (a : Int).tmod k ∧ (a : Int).tmod k < 6 := by
 rw [Int.tmod_eq_emod_of_nonneg (by omega)]
 have h1 : (a : Int) % k = ((a % k : Nat) : Int) := by simp
 have := Nat.mod_lt a (show 0 < k by omega)
 rw [h1]
 omega
theorem slice22 (w : World) (b o n : Nat) (hn : n ≤ 10) : (Instr.sliceAt 22 (.pointer (some ⟨b,o,none⟩)) none (some (.int .i64 n)) none).run Tryd.prog w = .ok (.slice (some ⟨b,o,none⟩) n 10) w := by
 have ha : Tryd.prog.arrayLen 22 = 10 := by simp [Program.arrayLen,Tryd.underlying22]
 have he : Tryd.prog.elem 22 = 5 := by simp [Program.elem,Tryd.underlying22]
 obtain ⟨i0,hi,hz0,hz1,hz2⟩ := info_parts Tryd.Builder_Extra_169.infoByte
 rw [run_sliceAt_array_h w 22 ⟨b,o,none⟩ (by rw [ha,he]; exact Tryd.underlying22) .i64 (n : Int) (by omega) (by rw [ha]; omega),ha,he]
 have hs : (sizeOf 5).run Tryd.prog w = .ok 1 w := by
  have hi' : Tryd.prog.info? 5 = some i0 := hi
  simp [sizeOf,typeInfo,hi',hz1,go_sem]
 rw [hs]
 simp [Result.andThen,slicedAt,Addr.add]
theorem made_calls (xs : List UInt8) (hx : xs.length = 11) (n k : Nat) (w : World) (c0 : UInt8) (h0 : xs[0]? = some c0) (hn : n ≤ 10) (hk : 1 ≤ k) (hk6 : k ≤ 6) :
  Calls Tryd.prog 7 #[.agg (Lib.byteCells xs).toArray,.int .i64 n,.int .i64 k] w fun e w' => e = .returned (.string ⟨(((xs.drop 1).take (c0.toNat % (n + 1))).map (lt k)).toArray⟩) ∧ Below w.heap.size w w' := by
 go_enter Tryd.func7,Tryd.ntmps7
 have hcell0 : ((w.alloc (.cells (Lib.byteCells xs).toArray 24)).alloc (.cells #[.pointer none,.slice none 0 0] 43)).cell? ⟨w.heap.size,0,none⟩ = some (.int .u8 c0.toNat) := by
  have hs : (w.alloc (.cells (Lib.byteCells xs).toArray 24)).heap.size = w.heap.size + 1 := by simp
  simp only [World.cell?]
  rw [heap_alloc_old _ _ (by rw [hs]; omega),heap_alloc_new]
  simp [Lib.byteCells,h0]
 go_wp2_with fail
 obtain ⟨m,hm,hmn⟩ : ∃ m : Nat,c0.toNat % (n + 1) = m ∧ m ≤ 10 := ⟨_,rfl,by have := Nat.mod_lt c0.toNat (show 0 < n + 1 by omega); omega⟩
 have hmi : (wrap64 (c0.toNat : Int)).tmod ((n : Int) + 1) = (m : Int) := by
  rw [wrap_u8,Int.tmod_eq_emod_of_nonneg (by omega),← hm]
  simp
 rw [hmi,slice22 _ _ _ _ hmn]
 simp only [Result.andThen]
 rw [Oper.upon_value]
 go_wp2_with fail
 have hxb : ∀ j,j < 10 → ∃ c : UInt8,xs[1 + j]? = some c := fun j hj => ⟨_,List.getElem?_eq_getElem (by omega)⟩
 have Hx := hid hxb
 clear hxb
 go_loopw [19] (fun i wr => ∃ k1 : Nat,k1 ≤ m ∧ i = .int .i64 k1 ∧ Hid (Lib.IsBuilderF 43 5 (w.heap.size + 1) (w.heap.size + 1) (Lib.byteCells (((xs.drop 1).take k1).map (lt k))) wr) ∧ Hid (Below (w.heap.size + 1) (w.alloc (.cells (Lib.byteCells xs).toArray 24)) wr)) (fun i _ => m - (intOf i).toNat)
 case atStart =>
  have h := Lib.IsBuilderF.of (Lib.fresh_isBuilder 43 5 (w.alloc (.cells (Lib.byteCells xs).toArray 24)))
  have hs : (w.alloc (.cells (Lib.byteCells xs).toArray 24)).heap.size = w.heap.size + 1 := by simp
  rw [hs] at h
  exact ⟨0,Nat.zero_le _,rfl,hid (by simpa [Lib.byteCells] using h),hid ((Below.refl _ _).alloc (by simp) _)⟩
 case round =>
  obtain ⟨k1,hk1,rfl,HB,HW⟩ := hrel
  by_cases hkr : k1 < m
  ·obtain ⟨c,hc⟩ := Hx.out k1 (by omega)
   have hcell : wr.cell? ⟨w.heap.size,1 + k1,none⟩ = some (.int .u8 c.toNat) := by
    rw [HW.out.cell (p := ⟨w.heap.size,1 + k1,none⟩) (Nat.lt_succ_self _)]
    simp only [World.cell?,heap_alloc_new]
    simp [Lib.byteCells,hc]
   have hm1 := tmod_lt c.toNat k hk hk6
   go_wp2_with fail
   ·have hBw : w.heap.size + 1 ≤ wr.heap.size := by have := HW.out.size; simp at this; omega
    refine (writeByteK _ _ _ _ wr HB.out (by rw [Lib.byteCells_length]; simp; omega) hBw).mono ?_
    rintro e w3 ⟨rfl,h3,hb3,-⟩
    have hn : Lib.byteCells (((xs.drop 1).take k1).map (lt k)) ++ [.int .u8 ((lt k c).toNat : Int)] = Lib.byteCells (((xs.drop 1).take (k1 + 1)).map (lt k)) := by
     have hd : (xs.drop 1)[k1]? = some c := by rw [List.getElem?_drop]; exact hc
     rw [List.take_add_one,hd,List.map_append,Lib.byteCells_append]
     rfl
    rw [idx c k _,hn] at h3
    have H3 := hid (Or.inr h3 : Lib.IsBuilderF 43 5 (w.heap.size + 1) (w.heap.size + 1) (Lib.byteCells (((xs.drop 1).take (k1 + 1)).map (lt k))) w3)
    have Hb3 := hid (HW.out.trans hb3)
    clear h3 hb3 hn hm1
    go_wp2
    exact ⟨⟨k1 + 1,by omega,by go_num,H3,Hb3⟩,by simp [intOf]; omega⟩
   ·rename_i hne
    rw [wrap_u8] at hne
    exact absurd hm1 hne
  ·obtain rfl : k1 = m := by omega
   have hBw : w.heap.size + 1 ≤ wr.heap.size := by have := HW.out.size; simp at this; omega
   go_wp2_with fail
   refine (stringK _ _ _ wr HB.out hBw).mono ?_
   rintro e w5 ⟨rfl,-,hb5⟩
   have Hb5 : Hid (Below w.heap.size w w5) := hid (((Below.refl w.heap.size w).alloc (Nat.le_refl _) _).trans ((HW.out.trans hb5).mono (by omega)))
   clear hb5
   go_wp2
   go_ret
   refine ⟨?_,Hb5.out⟩
   rw [hm]
   simp [go_sem]
end Go.Proofs.YtmnmfmghmenkkaaDoor
set_option linter.unusedSimpArgs false
set_option linter.unusedVariables false
set_option linter.unusedSectionVars false
namespace Go.Proofs.YtmnmfmghmenkkaaDoor
open Go.Abs Go.Pur Go.ChangeShapes Go.WideShapes Go.ChangeAt Go.RowKit
set_option maxRecDepth 100000
theorem laidOut : laidOutB Tryd.prog = true := by kernel_rfl
section
variable {H : Type} {enc : TypeId × Value → H} {W : World} {r : Reach} {b0 : Nat}
theorem trod_arr {P : Program} {w : World} {base : Nat} {spare : Nat → Bool} {held : Bool} {t e : TypeId} {k : IntKind} {n fuel : Nat} {cs : List Value} {x : DataW H × List MemPlace} (ht : P.underlying t = some (.array n e)) (he : P.underlying e = some (.int k)) (hce : P.cellsOf e = 1)
  (h : DataW.trod enc P w base spare held fuel t cs = some x) (hlen : cs.length = n) : ∀ (i : Nat) (c : Value),cs[i]? = some c → ∃ z,c = .int k z ∧ (Lit.int k z).wf = true := by
 intro i c hc
 cases fuel with
 | zero => simp [DataW.trod] at h
 | succ m =>
  unfold DataW.trod at h
  rw [ht] at h
  simp only [hce] at h
  split at h
  ·simp only [Option.map_eq_some_iff] at h
   obtain ⟨xs,hp,_⟩ := h
   have hi : i < n := by
    rw [← hlen]
    exact (List.getElem?_eq_some_iff.1 hc).1
   have hl := mapM_some_length hp
   have := mapM_some_get hp i i (by simp [hi])
   rw [List.getElem?_eq_getElem (by rw [hl]; simpa using hi)] at this
   have hd : (cs.drop (i * 1)).take 1 = [c] := by
    rw [Nat.mul_one,List.drop_eq_getElem_cons (by omega)]
    simp [(List.getElem?_eq_some_iff.1 hc).2]
   rw [hd] at this
   obtain ⟨z,e1,_,e2⟩ := DataW.trod_int he this
   simp only [List.cons.injEq,and_true] at e1
   exact ⟨z,e1,e2⟩
  ·cases h
theorem trod_two {P : Program} {w : World} {base : Nat} {spare : Nat → Bool} {held : Bool} {t : TypeId} {f0 f1 : Field} {fuel : Nat} {cs : List Value} {x : DataW H × List MemPlace} (ht : P.underlying t = some (.struct #[f0,f1])) (h : DataW.trod enc P w base spare held fuel t cs = some x) :
  ∃ y0 y1 n,x = (.agg [y0.1,y1.1],y0.2 ++ y1.2) ∧ cs.length = P.cellsOf t ∧ DataW.trod enc P w base spare held n f0.type ((cs.drop f0.offset).take (P.cellsOf f0.type)) = some y0 ∧
   DataW.trod enc P w base spare held n f1.type ((cs.drop f1.offset).take (P.cellsOf f1.type)) = some y1 := by
 obtain ⟨xs,n,_,rfl,hl,hlen,hf⟩ := DataW.trod_struct ht h
 match xs,hlen with
 | [y0,y1],_ => exact ⟨y0,y1,n,by simp,hl,by simpa using hf 0 f0 rfl,by simpa using hf 1 f1 rfl⟩
theorem byteZ_wf {z : Int} (h : (Lit.int .u8 z).wf = true) : 0 ≤ z ∧ z ≤ 255 := by
 simpa [Lit.wf,IntKind.min,IntKind.max,IntKind.has,IntKind.signed,IntKind.bits] using h
theorem bytes_of : ∀ {cs : List Value},(∀ (i : Nat) c,cs[i]? = some c → ∃ z,c = .int .u8 z ∧ (Lit.int .u8 z).wf = true) → ∃ xs,cs = Lib.byteCells xs
 | [],_ => ⟨[],rfl⟩
 | c :: cs,h => by
  obtain ⟨z,rfl,hw⟩ := h 0 c rfl
  obtain ⟨xs,hx⟩ := bytes_of (cs := cs) fun i c hc => h (i + 1) c hc
  obtain ⟨h1,h2⟩ := byteZ_wf hw
  refine ⟨UInt8.ofNat z.toNat :: xs, ?_⟩
  rw [hx]
  simp only [Lib.byteCells,List.map_cons]
  congr 2
  rw [UInt8.toNat_ofNat']
  omega
theorem okWide_arr {P : Program} {w : World} {r : Reach} {base : Nat} {t e : TypeId} {n : Nat} {v : Value} (ht : P.underlying t = some (.array n e)) (h : Value.okWide P w r base t v) : ∃ cs,v = .agg cs ∧ cs.size = P.cellsOf t := by
 unfold Value.okWide at h
 rw [ht] at h
 cases v <;> simp_all
theorem cells22 : Tryd.prog.cellsOf 22 = 10 := by kernel_rfl
theorem cells24 : Tryd.prog.cellsOf 24 = 11 := by kernel_rfl
theorem cells25 : Tryd.prog.cellsOf 25 = 6 := by kernel_rfl
theorem cells5s : Tryd.prog.cellsOf 5 = 1 := by kernel_rfl
theorem val_six {v : Value} {ds : DataW H} {ps : List MemPlace} (hv : Value.okWide Tryd.prog W r b0 25 v) (h : DataW.Trod enc Tryd.prog W 0 (fun _ => true) true 25 v ds ps) :
  ∃ xs : List UInt8,xs.length = 6 ∧ v = .agg (Lib.byteCells xs).toArray := by
 obtain ⟨cs,rfl,hs⟩ := okWide_arr Tryd.underlying25 hv
 obtain ⟨fuel,h⟩ := h
 rw [cells25] at hs
 have key := trod_arr Tryd.underlying25 Tryd.underlying5 cells5s h hs
 have hcs : (Value.agg cs).cells.toList = cs.toList := rfl
 rw [hcs] at key
 obtain ⟨xs,hx⟩ := bytes_of (cs := cs.toList) key
 refine ⟨xs, ?_, ?_⟩
 ·have := congrArg List.length hx
  rw [Lib.byteCells_length] at this
  simpa [hs] using this.symm
 ·rw [← hx]
theorem val_slip {v : Value} {ds : DataW H} {ps : List MemPlace} (hv : Value.okWide Tryd.prog W r b0 24 v) (h : DataW.Trod enc Tryd.prog W 0 (fun _ => true) true 24 v ds ps) :
  ∃ xs : List UInt8,xs.length = 11 ∧ v = .agg (Lib.byteCells xs).toArray := by
 obtain ⟨cs,rfl,hs⟩ := okWide_struct Tryd.underlying24 hv
 obtain ⟨fuel,h⟩ := h
 obtain ⟨y0,y1,n,_,hl,h0,h1⟩ := trod_two Tryd.underlying24 h
 rw [cells24] at hl
 have hcs : (Value.agg cs).cells.toList = cs.toList := rfl
 rw [hcs] at hl h0 h1
 obtain ⟨za,ea,_,wa⟩ := DataW.trod_int Tryd.underlying5 h0
 rw [cells5s] at ea
 have key := trod_arr Tryd.underlying22 Tryd.underlying5 cells5s h1 (by
  rw [cells22,List.length_take,List.length_drop,hl]
  rfl)
 rw [cells22] at key
 obtain ⟨xs,hx⟩ := bytes_of (cs := cs.toList) fun i c hc => by
  have hi : i < 11 := by have := (List.getElem?_eq_some_iff.1 hc).1; omega
  by_cases hz : i = 0
  ·subst hz
   have h4 : ((cs.toList.drop 0).take 1)[0]? = some (Value.int .u8 za) := by
    have : (cs.toList.drop 0).take 1 = [Value.int .u8 za] := ea
    rw [this]; rfl
   rw [List.getElem?_take,if_pos (by omega),List.drop_zero,hc] at h4
   exact ⟨za,Option.some.inj h4,wa⟩
  ·refine key (i - 1) c ?_
   show ((cs.toList.drop 1).take 10)[i - 1]? = some c
   rw [List.getElem?_take,if_pos (by omega),List.getElem?_drop,show 1 + (i - 1) = i by omega]
   exact hc
 refine ⟨xs, ?_, ?_⟩
 ·have := congrArg List.length hx
  rw [Lib.byteCells_length] at this
  omega
 ·rw [← hx]
end
end Go.Proofs.YtmnmfmghmenkkaaDoor
set_option linter.unusedSimpArgs false
set_option linter.unusedVariables false
set_option linter.unusedSectionVars false
namespace Go.Pur
open Go.Abs
def bytO (l : List UInt8) : Option (List Int) := match Nat.ble l.length 1000000 with
 | true => some (l.map fun b => (b.toNat : Int))
 | false => none
theorem bytO_ok {l : List UInt8} {x : List Int} (h : bytO l = some x) : l.length = x.length ∧ (l.map fun b => PV.v (.int .u8 b.toNat)) = x.map (kv .u8) ∧ Nat.ble (x.length + 1) unkCap = true := by
 unfold bytO at h
 split at h
 ·rename_i hb
  cases h
  refine ⟨by simp,by simp, ?_⟩
  refine Nat.ble_eq_true_of_le ?_
  have := Nat.le_of_ble_eq_true hb
  simp only [List.length_map]
  exact Nat.lt_of_le_of_lt this (show 1000000 < unkCap by decide)
 ·cases h
end Go.Pur
set_option linter.unusedSimpArgs false
set_option linter.unusedVariables false
set_option linter.unusedSectionVars false
namespace Go.Proofs.YtmnmfmghmenkkaaDoor
open Go.Abs
def tabs : List Blk := [bareBlk 89,bareBlk 93,bareBlk 3]
def tabLocs : List Abs.Loc := [⟨0,0,0⟩,⟨1,0,0⟩,⟨2,0,0⟩]
theorem own : ownKnob Tryd.prog.godebug = none := by kernel_rfl
theorem mix : Tryd.prog.follows .mixedOrders = true := by kernel_rfl
theorem nglob : Tryd.prog.globals.size = 3 := by kernel_rfl
noncomputable def zt (g : Nat) (h : (((begin Tryd.prog (fun _ _ => 0) default).world.heap[g]?).bind Obj.row?).isSome = true) : {zt : Array Value × TypeId // ((begin Tryd.prog (fun _ _ => 0) default).world.heap[g]?).bind Obj.row? = some (zt.1, zt.2)} := ⟨(Option.get _ h), (Option.some_get h).symm⟩
noncomputable def z0 := zt 0 (by kernel_rfl)
noncomputable def z1 := zt 1 (by kernel_rfl)
noncomputable def z2 := zt 2 (by kernel_rfl)
def Tbs (W : World) : Prop := ∀ (i : Nat) (B : Blk) (L : Abs.Loc),tabs[i]? = some B → tabLocs[i]? = some L → Lies W B L
theorem Tbs.of {W : World} (hS : W.ShapedOpen Tryd.prog) : Tbs W := fun i B L hB hL => by
 match i,hB,hL with
 | 0,hB,hL => cases hB; cases hL; exact lies_bare 89 hS (by rw [nglob]; decide) z0.2
 | 1,hB,hL => cases hB; cases hL; exact lies_bare 93 hS (by rw [nglob]; decide) z1.2
 | 2,hB,hL => cases hB; cases hL; exact lies_bare 3 hS (by rw [nglob]; decide) z2.2
 | i + 3,hB,hL => simp [tabs] at hB
theorem Tbs.size {W : World} (h : Tbs W) : 2 < W.heap.size := (h 2 _ _ rfl rfl).2.2.1
theorem tabs_wr : ∀ B ∈ tabs,B.wr = false := by
 intro B hB
 simp only [tabs,List.mem_cons,List.not_mem_nil,or_false] at hB
 rcases hB with rfl | rfl | rfl <;> rfl
def cellsInto (l : List Value) (o : Obj) : Obj :=
 match o with
 | .cells _ t frozen => .cells l.toArray t frozen
 | o => o
def tabFirst : List Int := Pinned.utf8FirstZ.map Int.ofNat
def tabAccept : List Int := [128,191,160,191,128,159,144,191,128,143,0,0,0,0,0,0,0,0,0,0,0,0,0,0,0,0,0,0,0,0,0,0]
noncomputable def laidWorld (os : Os) : World :=
 { World.holding Tryd.prog os ⟨#[],#[],[]⟩ with heap := ((World.holding Tryd.prog os ⟨#[],#[],[]⟩).heap.modify 0 (cellsInto (tabFirst.map (Value.int .u8 ·)))).modify 1 (cellsInto (tabAccept.map (Value.int .u8 ·))) }
end Go.Proofs.YtmnmfmghmenkkaaDoor
set_option linter.unusedSimpArgs false
set_option linter.unusedVariables false
namespace Go.Proofs.YtmnmfmghmenkkaaDoor
open Go.Abs Go.Pur
set_option maxRecDepth 100000
noncomputable def yesBare (f : FuncId) : Bool := match run Tryd.prog noO 100000 f [] (bare Tryd.prog) with
 | some (.bool true,_) => true
 | _ => false
theorem works_bare : yesBare 12 = true := by kernel_rfl
theorem yes_bare {f : FuncId} (h : yesBare f = true) : ∃ h',run Tryd.prog noO 100000 f [] (bare Tryd.prog) = some (.bool true,h') := by
 unfold yesBare at h
 split at h
 ·rename_i h' e; exact ⟨h',e⟩
 ·cases h
theorem ok12 : FnOK Tryd.prog Y0 12 := by
 obtain ⟨h',hr⟩ := yes_bare works_bare
 refine fnOK_lib e17 rfl (bare_true mix hr).1 (fun xs rs he m h w hR args hd => ?_)
 cases xs with
 | cons a l => cases he
 | nil =>
  cases he
  cases hd
  exact ((bare_true mix hr).2 hR).mono fun e w' ⟨h1,h2⟩ => ⟨[.bool true],h1,h2,.cons _ _ _ _ (.p _) .nil⟩
end Go.Proofs.YtmnmfmghmenkkaaDoor
set_option linter.unusedSimpArgs false
set_option linter.unusedVariables false
namespace Go.Proofs.YtmnmfmghmenkkaaDoor
open Go.RowKit Go.Shelf
set_option maxRecDepth 1000000
set_option maxHeartbeats 4000000
def MapFn (g : Nat) (lb : Array Value) (f : UInt8 → UInt8) (l : List UInt8) (w : World) : Prop :=
 ∀ (W : World) (x : UInt8),x ∈ l → Below w.heap.size w W → Calls Tryd.prog g (#[.int .i32 x.toNat] ++ lb) W fun e W' => e = .returned (.int .i32 (f x).toNat) ∧ W' = W
theorem mapText (g : Nat) (lb : Array Value) (eg : ∀ args w,(callFunc g args).run Tryd.prog w = .ok (.enter g args) w) (f : UInt8 → UInt8) (s : ByteArray) (w : World) (hs : s.size ≤ 1000)
  (ha : ∀ x ∈ s.data.toList,x.toNat < 128 ∧ (f x).toNat < 128) (hf : MapFn g lb f s.data.toList w) :
  Calls Tryd.prog 5 #[.func (.func g) #[] lb,.string s] w fun e w' => e = .returned (.string ⟨(s.data.toList.map f).toArray⟩) ∧ Below w.heap.size w w' := by
 obtain ⟨ANS,hANS⟩ : ∃ ANS,s.data.toList.map f = ANS := ⟨_,rfl⟩
 rw [hANS]
 have hlen : s.data.toList.length = s.size := by simp
 have mixed : Tryd.prog.follows .mixedOrders = true := by kernel_rfl
 go_enter Tryd.func5,Tryd.ntmps5
 go_wp2
 go_loopg [1] s.size (fun gk s1 wx => s1 = .string s ∧ ∃ pos : Nat,wx.heap[w.heap.size]? = some (.cells #[.pointer none,.slice none 0 0] 43 (0,0)) ∧ wx.heap[w.heap.size + 1]? = some (.stringIter s pos) ∧ Below w.heap.size w wx ∧
  s.data.toList.take pos ++ (s.data.toList.drop pos).map f = ANS ∧ s.size ≤ pos + gk ∧ pos ≤ s.size)
 case atStart =>
  refine ⟨rfl,0, ?_, ?_,((Below.refl _ w).alloc (Nat.le_refl _) _).alloc (by simp) _,by simpa using hANS,by omega,by omega⟩
  ·have h1 := heap_alloc_new w (.cells #[.pointer none,.slice none 0 0] 43)
   exact (Below.heap_alloc _ _ _ (by simp)).trans h1
  ·have := World.iter_heap (w.alloc (.cells #[.pointer none,.slice none 0 0] 43)) s 0
   simpa using this
 case round =>
  obtain ⟨rfl,pos,hfr,hit,hbw,hsp,hfu,hps⟩ := hrel
  by_cases hlt : pos < s.size
  ·obtain ⟨g',rfl⟩ : ∃ g',gk = g' + 1 := ⟨gk - 1,by omega⟩
   have hx : s.data.toList[pos]? = some (s[pos]'hlt) := by
    rw [List.getElem?_eq_getElem (by rw [hlen]; exact hlt)]
    rfl
   obtain ⟨x,hxe⟩ : ∃ x,s[pos]'hlt = x := ⟨_,rfl⟩
   rw [hxe] at hx
   have hmem : x ∈ s.data.toList := List.mem_of_getElem? hx
   obtain ⟨hx1,hx2⟩ := ha x hmem
   have hnx : ∀ ty,(Instr.next (.pointer (some ⟨w.heap.size + 1,0,none⟩)) true ty).run Tryd.prog wr = _ := fun ty => Lib.run_next_ascii_at wr (w.heap.size + 1) s pos ty hit hlt (by rw [hxe]; exact hx1)
   rw [hxe] at hnx
   have hdr : s.data.toList.drop pos = x :: s.data.toList.drop (pos + 1) := by
    rw [List.getElem?_eq_getElem (by rw [hlen]; exact hlt)] at hx
    rw [List.drop_eq_getElem_cons (by rw [hlen]; exact hlt),Option.some.inj hx]
   have hit2 := Lib.iterAt_heap wr (w.heap.size + 1) s pos (pos + 1) hit
   have hbw2 := Lib.below_iterAt hbw (k := w.heap.size + 1) (by omega) s (pos + 1)
   have hfr2 : (wr.iterAt (w.heap.size + 1) s (pos + 1)).heap[w.heap.size]? = _ := (Lib.iterAt_other wr (w.heap.size + 1) w.heap.size s (pos + 1) (by omega)).trans hfr
   obtain ⟨W,hWd⟩ : ∃ W,wr.iterAt (w.heap.size + 1) s (pos + 1) = W := ⟨_,rfl⟩
   rw [hWd] at hnx hit2 hbw2 hfr2
   have cS : Calls Tryd.prog g (#[.int .i32 (x.toNat : Int)] ++ lb) W _ := hf W x hmem hbw2
   obtain ⟨M,hM⟩ : ∃ M,(f x).toNat = M := ⟨_,rfl⟩
   rw [hM] at cS hx2
   obtain ⟨R,hR⟩ : ∃ R,x.toNat = R := ⟨_,rfl⟩
   rw [hR] at cS hx1 hnx
   have hstep : s.data.toList.take pos ++ (f x :: (s.data.toList.drop (pos + 1)).map f) = ANS := by rw [← hsp,hdr,List.map_cons]
   clear hit hbw hfr hWd
   by_cases hc : M = R
   ·subst hc
    have hsame : s.data.toList.take (pos + 1) ++ (s.data.toList.drop (pos + 1)).map f = ANS := by
     have hfx : f x = x := UInt8.toNat_inj.1 (by omega)
     rw [List.take_add_one,hx,← hstep,hfx]
     simp
    have HS : Hid (s.data.toList.take (pos + 1) ++ (s.data.toList.drop (pos + 1)).map f = ANS) := hsame
    have hc2' : ¬ ((M : Int) = 65533) := by omega
    clear hsame hstep hsp hdr
    go_wp2_with (go_at_fn g; go_must (refine cS.mono ?_; rintro e W' ⟨rfl,rfl⟩))
    go_roundg g'
    case measure => omega
    case rel => exact ⟨rfl,pos + 1,hfr2,hit2,hbw2,HS.out,by omega,by omega⟩
   ·have HS : Hid (s.data.toList.take pos ++ (f x :: (s.data.toList.drop (pos + 1)).map f) = ANS) := hstep
    have hc' : ¬ ((M : Int) = (R : Int)) := by omega
    have hc2 : ¬ ((R : Int) = 65533) := by omega
    have hM0 : ¬ ((M : Int) < 0) := by omega
    clear hstep hsp hdr
    go_wp2_with (go_at_fn g; go_must (refine cS.mono ?_; rintro e W' ⟨rfl,rfl⟩))
    have hR1 : Lib.runeLen (R : Int) = 1 := by
     unfold Lib.runeLen
     rw [if_neg (by omega),if_pos (by omega)]
    have cR := Tryd.utf8_RuneLen (R : Int) W'
    rw [hR1] at cR
    refine cR.mono ?_
    rintro e W3 ⟨rfl,rfl⟩
    clear cS cR hnx
    have cG := growBuilder w.heap.size w.heap.size (s.size + 4) W3 (Nat.le_refl _) hfr2 hbw2.size (by omega)
    rw [show ((s.size + 4 : Nat) : Int) = (s.size : Int) + 4 by omega] at cG
    go_wp2_with fail
    refine cG.mono ?_
    rintro e W4 ⟨rfl,h4,b4⟩
    clear cG
    go_wp2_with fail
    have hxs : (s.extract 0 pos).size = pos := by rw [Lib.size_eq,Lib.extract_data,List.length_take,List.length_drop,hlen]; omega
    have hxd : (s.extract 0 pos).data.toList = s.data.toList.take pos := by rw [Lib.extract_data]; simp
    refine (writeStringK w.heap.size w.heap.size [] (s.extract 0 pos) W4 (Lib.IsBuilderF.of (Or.inr h4)) (by rw [hxs]; simp; omega) (Nat.le_trans hbw2.size b4.size)).mono ?_
    rintro e W5 ⟨rfl,h5w,b5,-⟩
    have hl5 : ([] ++ Lib.strCells (s.extract 0 pos)).length = pos := by simp [Lib.strCells_length,hxs]
    go_wp2_with fail
    refine (writeRuneK w.heap.size w.heap.size _ M (by omega) W5 (Or.inr h5w) (by rw [hl5]; omega) (Nat.le_trans hbw2.size (Nat.le_trans b4.size b5.size))).mono ?_
    rintro e W6 ⟨rfl,h6w,b6,-⟩
    have hb6 : Below w.heap.size w W6 := ((hbw2.trans b4).trans b5).trans b6
    have hcells : [] ++ Lib.strCells (s.extract 0 pos) ++ [.int .u8 (M : Int)] = Lib.byteCells (s.data.toList.take pos ++ [f x]) := by
     rw [List.nil_append,Lib.strCells_eq,hxd,Lib.byteCells_append,← hM]
     rfl
    rw [hcells] at h6w
    obtain ⟨g6,cap6,hc6,hcap6⟩ : ∃ g6 cap6,W6.cell? ⟨w.heap.size,1,none⟩ = some (.slice (some ⟨g6,0,none⟩) (Lib.byteCells (s.data.toList.take pos ++ [f x])).length cap6) ∧ 1 ≤ cap6 := by
     obtain ⟨_,v6,hv6,hown6,_⟩ := h6w
     have hln : 1 ≤ (Lib.byteCells (s.data.toList.take pos ++ [f x])).length := by rw [Lib.byteCells_length,List.length_append]; simp
     rcases hown6.2 with ⟨_,h0⟩ | ⟨g6,cap6,_,_,rfl,_,_,_,hnc,_⟩
     ·omega
     ·exact ⟨g6,cap6,by rw [Lib.cell_of_heap hv6]; rfl,by omega⟩
    have hcapz : ¬ ((cap6 : Int) = 0) := by omega
    have hcapb : ((cap6 : Int) == 0) = false := by simp; omega
    have hpk : ((pos : Int) + 1).toNat = pos + 1 := by omega
    clear h4 b4 b5 b6 hfr2 hit2 h5w hbw2
    go_wp2_with fail
    refine (capBuilder w.heap.size _ _ cap6 W6 hc6).mono ?_
    rintro e W6' ⟨rfl,rfl⟩
    obtain ⟨s2,hs2⟩ : ∃ s2,s.extract (pos + 1) s.size = s2 := ⟨_,rfl⟩
    have hl2 : s2.data.toList = s.data.toList.drop (pos + 1) := by
     rw [← hs2,Lib.extract_data,List.take_of_length_le (by rw [List.length_drop,hlen]; omega)]
    have hz2 : s2.size = s.size - (pos + 1) := by rw [Lib.size_eq,hl2,List.length_drop,hlen]
    go_wp2_with fail
    clear hc6 hcapz hcapb hcap6
    go_loopg [] s2.size (fun gk wx => ∃ (p2 : Nat) (acc : List UInt8),Lib.IsBuilderF 43 5 w.heap.size w.heap.size (Lib.byteCells acc) wx ∧ wx.heap[W6'.heap.size]? = some (.stringIter s2 p2) ∧ Below w.heap.size w wx ∧
     acc ++ (s2.data.toList.drop p2).map f = ANS ∧ s2.size ≤ p2 + gk ∧ p2 ≤ s2.size ∧ acc.length ≤ pos + 1 + p2)
    case atStart =>
     refine ⟨0,s.data.toList.take pos ++ [f x],Lib.IsBuilderF.alloc (Or.inr h6w) _,World.iter_heap W6' s2 0,hb6.alloc hb6.size _, ?_,by omega,by omega, ?_⟩
     ·rw [List.drop_zero,hl2,List.append_assoc]; exact HS.out
     ·rw [List.length_append,List.length_take,hlen]; simp; omega
    case round =>
     obtain ⟨p2,acc,hI,hit,hbw,hacc,hfu2,hp2,hal⟩ := hrel
     have hszI : W6'.heap.size < wr.heap.size := (Array.getElem?_eq_some_iff.1 hit).1
     have hBI : w.heap.size ≤ W6'.heap.size := hb6.size
     have hBlt : w.heap.size < W6'.heap.size := h6w.lt
     by_cases hlt2 : p2 < s2.size
     ·obtain ⟨g2,rfl⟩ : ∃ g2,gk = g2 + 1 := ⟨gk - 1,by omega⟩
      have hlen2 : s2.data.toList.length = s2.size := by simp
      have hy : s2.data.toList[p2]? = some (s2[p2]'hlt2) := by
       rw [List.getElem?_eq_getElem (by rw [hlen2]; exact hlt2)]
       rfl
      obtain ⟨y,hye⟩ : ∃ y,s2[p2]'hlt2 = y := ⟨_,rfl⟩
      rw [hye] at hy
      have hmem2 : y ∈ s.data.toList := by
       have h1 := List.mem_of_getElem? hy
       rw [hl2] at h1
       exact List.mem_of_mem_drop h1
      obtain ⟨hy1,hy2⟩ := ha y hmem2
      have hnx : ∀ ty,(Instr.next (.pointer (some ⟨W6'.heap.size,0,none⟩)) true ty).run Tryd.prog wr = _ := fun ty => Lib.run_next_ascii_at wr W6'.heap.size s2 p2 ty hit hlt2 (by rw [hye]; exact hy1)
      rw [hye] at hnx
      have hdr2 : s2.data.toList.drop p2 = y :: s2.data.toList.drop (p2 + 1) := by
       rw [List.getElem?_eq_getElem (by rw [hlen2]; exact hlt2)] at hy
       rw [List.drop_eq_getElem_cons (by rw [hlen2]; exact hlt2),Option.some.inj hy]
      have hI2 := hI.iterAt hit (p2 + 1)
      have hit2 := Lib.iterAt_heap wr W6'.heap.size s2 p2 (p2 + 1) hit
      have hbw2 := Lib.below_iterAt hbw (k := W6'.heap.size) hBI s2 (p2 + 1)
      have hsz2 : w.heap.size ≤ (wr.iterAt W6'.heap.size s2 (p2 + 1)).heap.size := by rw [Lib.iterAt_size]; omega
      obtain ⟨Wa,hWa⟩ : ∃ Wa,wr.iterAt W6'.heap.size s2 (p2 + 1) = Wa := ⟨_,rfl⟩
      rw [hWa] at hnx hI2 hit2 hbw2 hsz2
      have cS2 : Calls Tryd.prog g (#[.int .i32 (y.toNat : Int)] ++ lb) Wa _ := hf Wa y hmem2 hbw2
      obtain ⟨M2,hM2⟩ : ∃ M2,(f y).toNat = M2 := ⟨_,rfl⟩
      rw [hM2] at cS2 hy2
      have HS2 : Hid ((acc ++ [f y]) ++ (s2.data.toList.drop (p2 + 1)).map f = ANS) := by
       show _ = _
       rw [← hacc,hdr2,List.map_cons,List.append_assoc]
       rfl
      have u8w : IntKind.u8.wrap (M2 : Int) = M2 := by rw [IntWalk.u8_in] <;> omega
      have hN0 : ¬ ((M2 : Int) < 0) := by omega
      have h128 : (M2 : Int) < 128 := by omega
      clear hit hbw hI hWa hacc HS hdr2 hy
      go_wp2_with (go_at_fn g; go_must (refine cS2.mono ?_; rintro e W' ⟨rfl,rfl⟩))
      refine (writeByteK w.heap.size w.heap.size _ M2 W' hI2 (by rw [Lib.byteCells_length]; omega) hsz2).mono ?_
      rintro e W7 ⟨rfl,h7,b7,k7⟩
      go_wp2
      go_roundg g2
      case measure => omega
      case rel =>
       refine ⟨p2 + 1,acc ++ [f y],Or.inr ?_,k7.iter hit2 (by omega),hbw2.trans b7,HS2.out,by omega,by omega,by rw [List.length_append]; simp; omega⟩
       rw [Lib.byteCells_append]
       have : Lib.byteCells [f y] = [.int .u8 (M2 : Int)] := by rw [← hM2]; rfl
       rw [this]
       exact h7
     ·obtain rfl : p2 = s2.size := by omega
      have hnx : ∀ ty,(Instr.next (.pointer (some ⟨W6'.heap.size,0,none⟩)) true ty).run Tryd.prog wr = _ := fun ty => Lib.run_next_end_at wr W6'.heap.size s2 s2.size ty hit hlt2
      go_wp2_with fail
      refine (stringK w.heap.size w.heap.size acc wr hI (by omega)).mono ?_
      rintro e W8 ⟨rfl,_,b8⟩
      go_wp2
      go_ret
      refine ⟨?_,hbw.trans b8⟩
      have hlen2 : s2.data.toList.length = s2.size := by simp
      rw [← hlen2,List.drop_length,List.map_nil,List.append_nil] at hacc
      subst hacc
      rfl
  ·obtain rfl : pos = s.size := by omega
   have hnx : ∀ ty,(Instr.next (.pointer (some ⟨w.heap.size + 1,0,none⟩)) true ty).run Tryd.prog wr = _ := fun ty => Lib.run_next_end_at wr (w.heap.size + 1) s s.size ty hit hlt
   have cC := capBuilder w.heap.size none 0 0 wr (by rw [Lib.cell_of_heap hfr]; rfl)
   go_wp2_with fail
   refine cC.mono ?_
   rintro e W' ⟨rfl,rfl⟩
   go_wp2_with fail
   go_ret
   refine ⟨?_,hbw⟩
   rw [← hsp,← hlen,List.drop_length,List.take_length,List.map_nil,List.append_nil]
   rfl
end Go.Proofs.YtmnmfmghmenkkaaDoor
set_option linter.unusedSimpArgs false
set_option linter.unusedVariables false
set_option linter.unusedSectionVars false
namespace Go.Pur
open Go.Abs Go.RowKit
theorem pplains_map : ∀ {rs : List Value},pplains (rs.map .v) = some rs
 | [] => rfl
 | r :: rs => by
  show (match (PV.v r :: rs.map .v) with
   | [] => some []
   | .v x :: l => match pplains l with
    | some r => some (x :: r)
    | none => none
   | _ :: _ => none) = _
  simp only [pplains_map]
theorem vr_packed {C : Ctx} {h : AHeap} {π : Option Pl} {rs : List Value} {x : Value} (hv : VR C h π (pPack (rs.map .v)) x) : x = packed rs := by
 have two : ∀ {rs : List Value} {x : Value},VR C h π (.t (rs.map .v)) x → x = .tuple rs.toArray := fun {rs x} hv => by
  obtain ⟨l,rfl,hl⟩ := hv.inv_t
  obtain ⟨e,_⟩ := pplains_lr pplains_map hl
  rw [e]
 match rs,hv with
 | [],hv => exact two hv
 | [v],hv => exact hv.inv_v.1
 | a :: b :: r,hv => exact two hv
theorem vrel_packed {m : BMap} {rs : List Value} {v : Value} (hok : rs.all okP = true) (h : VRel m (packed rs) v) : v = packed rs := by
 have two : ∀ {rs : List Value} {v : Value},rs.all okP = true → VRel m (.tuple rs.toArray) v → v = .tuple rs.toArray := fun {rs v} hok h => by
  obtain ⟨l,rfl,hl⟩ := h.inv_tuple
  have := LRel.all_plain hl (List.all_eq_true.2 fun v hv => okP_plain (List.all_eq_true.1 hok v hv))
  have e : l = rs.toArray := Array.toList_inj.1 this
  rw [e]
 match rs,hok,h with
 | [],hok,h => exact two hok h
 | [a],hok,h => exact h.inv_plain (v := a) (okP_plain (by simpa using hok))
 | a :: b :: r,hok,h => exact two hok h
section
variable {P : Program} {Y : Pol} {W : World}
theorem Lies.below {B : Blk} {L : Abs.Loc} {n : Nat} {W W' : World} (h : Lies W B L) (hL : L.b < n) (hb : Below n W W') : Lies W' B L := by
 obtain ⟨h1,h2,h3,h4,h5⟩ := h
 have e : W'.heap[L.b]? = W.heap[L.b]? := hb.block _ hL
 refine ⟨h1,h2,Nat.lt_of_lt_of_le h3 hb.size,h4.imp (fun h => h) (fun ⟨C,t,fr,h⟩ => ⟨C,t,fr,by rw [e]; exact h⟩),fun k v hk => ?_⟩
 obtain ⟨c1,c2⟩ := h5 k v hk
 exact ⟨by rw [World.cell?_of_block (w := W) e]; exact c1,c2⟩
theorem pure_calls (hmix : P.follows .mixedOrders = true) (hok : progOK P = true) (hlib : ∀ g,Y.yes g = true → FnOK P Y g) {G : List Blk} {GL : List Abs.Loc} (hG : G ≠ []) (hlen : G.length = GL.length) (hw : ∀ B ∈ G,B.wr = false)
  (hT : ∀ (i : Nat) (B : Blk) (L : Abs.Loc),G[i]? = some B → GL[i]? = some L → Lies W B L) (hgl : ∀ g,g < P.globals.size → GL[g]? = some ⟨g,0,0⟩)
  (hgr : ∀ l : List Blk,GR P Y (C0 P (G ++ l).length) (heapOf (G ++ l)))
  {f : FuncId} {us : List PV} {vs : List Value} {rs : List Value} {hp' : List (Option (List PV))} {wl : Option Nat} (hrs : rs.all okP = true) (hA : ArgsIn W vs us) (hE : E P Y f us [] = some (pPack (rs.map .v),hp',wl)) :
  Calls P f vs.toArray W fun e W' => e = .returned (packed rs) ∧ Below W.heap.size W W' := by
 obtain ⟨l,ls,xs,a1,a2,a3⟩ := args_in (P := P) hA hG hlen
 obtain ⟨b1,b2⟩ := a3 [] []
 simp only [List.append_nil] at b1 b2
 obtain ⟨n,hn⟩ := E_iff.1 hE
 obtain ⟨O,hl,hO,hOe⟩ := lib_of hlib
 obtain ⟨C',h',x',r1,r2⟩ := purRun_sim hl hok n f us [] _ hp' wl hn (C0 P (G ++ l).length) (heapOf (G ++ l)) xs 0
  ⟨rfl,⟨fun _ h => h,fun id h => ⟨h,rfl⟩,fun _ _ h => (by cases h),fun _ _ h => (by cases h),fun _ _ _ h => (by cases h),fun _ _ h => (by simp at h),fun _ _ h => (by simp at h)⟩,hgr l,fun _ _ h => (by cases h),b2⟩
 obtain rfl := vr_packed r2.res
 have hR : Rel P (mapOf (GL ++ ls)) (heapOf (G ++ l)) W := by
  refine rel_init _ _ (by simp [a1,hlen]) (fun i B L hB hL => ?_) (fun g hg => ?_)
  ·by_cases hi : i < G.length
   ·rw [List.getElem?_append_left hi] at hB
    rw [List.getElem?_append_left (hlen ▸ hi)] at hL
    exact hT i B L hB hL
   ·rw [List.getElem?_append_right (Nat.not_lt.1 hi)] at hB
    rw [List.getElem?_append_right (hlen ▸ Nat.not_lt.1 hi)] at hL
    rw [← hlen] at hL
    exact a2 _ B L hB hL
  ·have h := hgl g hg
   rw [List.getElem?_append_left (List.getElem?_eq_some_iff.1 h).1]
   exact h
 obtain ⟨_,hc⟩ := sound_call hmix hOe hO n f xs (heapOf (G ++ l)) (packed rs) h' r1
 refine (hc _ W vs hR b1).mono fun e W' ⟨m',v',he,hv,_,hs⟩ => ?_
 rw [vrel_packed hrs hv] at he
 refine ⟨he,⟨hs.os,hs.tape,hs.output,hs.size,fun k hk => hs.frame k hk (fun a B L hB hwr _ _ => ?_) (fun a x L hx => (by cases hx))⟩⟩
 rw [heapOf_get] at hB
 have hmem := List.mem_of_getElem? hB
 rw [List.mem_append] at hmem
 rcases hmem with hm | hm
 ·rw [hw B hm] at hwr; cases hwr
 ·obtain ⟨i,hi,rfl⟩ := List.mem_iff_getElem.1 hm
  rw [(a2 i _ (ls[i]'(a1 ▸ hi)) (List.getElem?_eq_getElem hi) (List.getElem?_eq_getElem _)).1] at hwr
  cases hwr
theorem pure_den (hmix : P.follows .mixedOrders = true) (hok : progOK P = true) (hlib : ∀ g,Y.yes g = true → FnOK P Y g) {G : List Blk} {GL : List Abs.Loc} (hG : G ≠ []) (hlen : G.length = GL.length) (hw : ∀ B ∈ G,B.wr = false)
  (hT : ∀ (i : Nat) (B : Blk) (L : Abs.Loc),G[i]? = some B → GL[i]? = some L → Lies W B L) (hgl : ∀ g,g < P.globals.size → GL[g]? = some ⟨g,0,0⟩)
  (hgr : ∀ l : List Blk,GR P Y (C0 P (G ++ l).length) (heapOf (G ++ l)))
  {f : FuncId} {us : List PV} {vs : List Value} {r : PV} {a : KA} {hp' : List (Option (List PV))} {wl : Option Nat} (hra : paArg r = some a) (hA : ArgsIn W vs us) (hE : E P Y f us [] = some (r,hp',wl)) :
  Calls P f vs.toArray W fun e W' => ∃ v,e = .returned v ∧ LDen W' v a ∧ Below W.heap.size W W' := by
 obtain ⟨l,ls,xs,a1,a2,a3⟩ := args_in (P := P) hA hG hlen
 obtain ⟨b1,b2⟩ := a3 [] []
 simp only [List.append_nil] at b1 b2
 obtain ⟨n,hn⟩ := E_iff.1 hE
 obtain ⟨O,hl,hO,hOe⟩ := lib_of hlib
 obtain ⟨C',h',x',r1,r2⟩ := purRun_sim hl hok n f us [] _ hp' wl hn (C0 P (G ++ l).length) (heapOf (G ++ l)) xs 0
  ⟨rfl,⟨fun _ h => h,fun id h => ⟨h,rfl⟩,fun _ _ h => (by cases h),fun _ _ h => (by cases h),fun _ _ _ h => (by cases h),fun _ _ h => (by simp at h),fun _ _ h => (by simp at h)⟩,hgr l,fun _ _ h => (by cases h),b2⟩
 have hra' := paArg_vr hra r2.res
 have hR : Rel P (mapOf (GL ++ ls)) (heapOf (G ++ l)) W := by
  refine rel_init _ _ (by simp [a1,hlen]) (fun i B L hB hL => ?_) (fun g hg => ?_)
  ·by_cases hi : i < G.length
   ·rw [List.getElem?_append_left hi] at hB
    rw [List.getElem?_append_left (hlen ▸ hi)] at hL
    exact hT i B L hB hL
   ·rw [List.getElem?_append_right (Nat.not_lt.1 hi)] at hB
    rw [List.getElem?_append_right (hlen ▸ Nat.not_lt.1 hi)] at hL
    rw [← hlen] at hL
    exact a2 _ B L hB hL
  ·have h := hgl g hg
   rw [List.getElem?_append_left (List.getElem?_eq_some_iff.1 h).1]
   exact h
 obtain ⟨_,hc⟩ := sound_call hmix hOe hO n f xs (heapOf (G ++ l)) x' h' r1
 refine (hc _ W vs hR b1).mono fun e W' ⟨m',v',he,hv,hR',hs⟩ => ?_
 refine ⟨v',he,aaArg_den hR' hra' hv,⟨hs.os,hs.tape,hs.output,hs.size,fun k hk => hs.frame k hk (fun a B L hB hwr _ _ => ?_) (fun a x L hx => (by cases hx))⟩⟩
 rw [heapOf_get] at hB
 have hmem := List.mem_of_getElem? hB
 rw [List.mem_append] at hmem
 rcases hmem with hm | hm
 ·rw [hw B hm] at hwr; cases hwr
 ·obtain ⟨i,hi,rfl⟩ := List.mem_iff_getElem.1 hm
  rw [(a2 i _ (ls[i]'(a1 ▸ hi)) (List.getElem?_eq_getElem hi) (List.getElem?_eq_getElem _)).1] at hwr
  cases hwr
theorem rel_bare {m : BMap} {h : AHeap} (hR : Rel P m h W) : Rel P m ⟨h.next,h.next,.nil,.nil⟩ W :=
 ⟨hR.lt,hR.fresh,(fun a B L hg => by cases hg),(fun a a' B B' L L' hg => by cases hg),hR.glob,fun _ _ => rfl,⟨(fun a x L hx => by cases hx),(fun a a' x x' L L' hx => by cases hx),fun _ _ => rfl⟩⟩
end
end Go.Pur
set_option linter.unusedSimpArgs false
set_option linter.unusedVariables false
namespace Go.Proofs.YtmnmfmghmenkkaaDoor
open Go.Abs Go.Pur
set_option maxRecDepth 100000
set_option maxHeartbeats 2000000
attribute [local simp] Go.Pur.EK_region Go.Pur.EK_seq Go.Pur.EK_cond Go.Pur.EK_block Go.Pur.EK_blk Go.Pur.EK_loop Go.Pur.EK_exit EK.ex Go.Pur.EK_ret Go.Pur.EK_skip Go.Pur.EK_nil Go.Pur.EO_cons Go.Pur.EO_nil Go.Pur.EO1_true Go.Pur.EO1_false Go.Pur.EO2_some Go.Pur.EO3_some Go.Pur.EB_true Go.Pur.EB_false Go.Pur.pwanted Go.Pur.poper Go.Pur.pq Go.Pur.pev Go.Pur.look Go.Pur.pputT Go.Pur.isAssign Go.Pur.drOf Go.Pur.pinit Go.Abs.Tr.get_set Go.Pur.lget Go.Pur.pvOf_int Go.Pur.pvOf_bool Go.Pur.pvOf_str Go.Pur.pvOf_nil Go.Pur.rdv_ak Go.Pur.notOwn_ak Go.Pur.prt_ak Go.Pur.loose_ak Go.Pur.rdv_own Go.Pur.rdv_fz Go.Pur.rdv_bor Go.Pur.rdv_rf Go.Pur.rdv_pt Go.Pur.rdv_v Go.Pur.rdv_a Go.Pur.rdv_t Go.Pur.rdv_r Go.Pur.rdv_p Go.Pur.rdv_s Go.Pur.rdv_f Go.Pur.pbin Go.Pur.plen Go.Pur.pload Go.Pur.ppart Go.Pur.idxAddr Go.Pur.pcond Nat.blt Go.Pur.goInt_eq Go.Pur.prun_not Go.Pur.prun_neg Go.Pur.mayLoad Go.Pur.ER_ret Go.Pur.ER_normal Go.Pur.presL Go.Pur.presOne Go.Pur.moved Go.Pur.stor Go.Pur.okDrop Go.Pur.settle_v Go.Pur.settle_l Go.Pur.settle_a Go.Pur.settle_p Go.Pur.settle_f Go.Pur.noref_v Go.Pur.noref_fz Go.Pur.noref_a Go.Pur.norefs_nil Go.Pur.norefs_cons Go.Pur.pclose Go.Pur.given Go.Pur.dropB Y0_keep Go.Pur.pevParts Go.Pur.stors Go.Pur.pvCells pvCells.go Go.Abs.vcells Go.Pur.pfill Go.Pur.reps Go.Pur.zipParts Go.Pur.ownFz Go.Pur.pcells Go.Pur.cellOK Go.Pur.one Go.Pur.psrcLen Go.Pur.srcFits Go.Pur.psrc Go.Pur.takeP Go.Pur.pgrow Go.Pur.take Go.Pur.getPl Go.Pur.setPl Go.Pur.mapL Go.Pur.plEq Go.Pur.elder Go.Pur.isList Go.Pur.lowP Go.Pur.pevs Go.Pur.frzs Go.Pur.addP Go.Pur.partAt Go.Pur.ble_lim24 Go.Pur.killV_v Go.Pur.killV_a Go.Pur.killV_t Go.Pur.killV_f Go.Pur.killV_i Go.Pur.killV_p Go.Pur.killV_s Go.Pur.killV_un Go.Pur.killV_dead Go.Pur.killV_lfz Go.Pur.killV_lbor Go.Pur.killV_lown Go.Pur.killV_rfz Go.Pur.killV_rbor Go.Pur.killV_lak Go.Pur.killV_rak Go.Pur.frzV_v Go.Pur.frzV_a Go.Pur.frzV_t Go.Pur.frzV_f Go.Pur.frzV_i Go.Pur.frzV_p Go.Pur.frzV_s Go.Pur.frzV_un Go.Pur.frzV_dead Go.Pur.frzV_lfz Go.Pur.frzV_lbor Go.Pur.frzV_lown Go.Pur.frzV_rfz Go.Pur.frzV_rbor Go.Pur.frzV_lak Go.Pur.frzV_rak Go.Pur.killCell_v Go.Pur.killCell_a Go.Pur.killCell_t Go.Pur.killCell_f Go.Pur.killCell_i Go.Pur.killCell_p Go.Pur.killCell_s Go.Pur.killCell_un Go.Pur.killCell_dead Go.Pur.killCell_lfz Go.Pur.killCell_lbor Go.Pur.killCell_lown Go.Pur.killCell_rfz Go.Pur.killCell_rbor Go.Pur.killCell_lak Go.Pur.killCell_rak Go.Pur.killV_lrf Go.Pur.killV_lpt Go.Pur.killV_rpt Go.Pur.frzV_lrf Go.Pur.frzV_lpt Go.Pur.frzV_rpt Go.Pur.killCell_lrft Go.Pur.killCell_lptt Go.Pur.killCell_rptt Go.Pur.killCell_lrfc Go.Pur.killCell_lptc Go.Pur.killCell_rptc Go.Pur.argv_lak Go.Pur.argv_rak Go.Pur.argv_v Go.Pur.argv_a Go.Pur.argv_p Go.Pur.argv_f Go.Pur.argv_fz Go.Pur.argv_bor Go.Pur.argv_rf Go.Pur.argv_pt Go.Pur.argv_rc Go.Pur.argv_own Go.Pur.mayTurn_none Go.Pur.argvs Go.Pur.pcallOp Go.Pur.firm Go.Pur.refsTo_v Go.Pur.refsTo_l Go.Pur.refsTo_p Go.Pur.refsTo_s Go.Pur.refsTo_a Go.Pur.refsTo_dead Go.Pur.refsTo_nil Go.Pur.refsTo_cons Go.Pur.isOwn_lak Go.Pur.ownFz_lak Go.Pur.evSafe Go.Pur.pskip Go.Abs.plain Go.Pur.pnewBlk Go.Pur.fldAddr Go.Pur.isOwn Go.Pur.pput Go.Pur.notOwn_fz Go.Pur.notOwn_bor Go.Pur.notOwn_own Go.Pur.notOwn_rf Go.Pur.notOwn_pt Go.Pur.prt_fz Go.Pur.prt_bor Go.Pur.prt_own Go.Pur.prt_rf Go.Pur.prt_pt Go.Pur.freeze Go.Pur.presM Go.Pur.settles Go.Pur.abin_and Go.Pur.abin_or Go.Pur.abin_andNot Go.Pur.abin_mul Go.Pur.abin_shr Go.Pur.abin_shl Go.Pur.abin_add Go.Pur.abin_sub Go.Pur.abin_eql Go.Pur.abin_neq Go.Pur.abin_lss Go.Pur.abin_leq Go.Pur.abin_gtr Go.Pur.abin_geq Go.Pur.hows Go.Pur.pcallIn Y0_how Y0_part howOf partOf Go.Pur.rdv_mown Go.Pur.rdv_mfz Go.Pur.rdv_mbor Go.Pur.rdv_mrf Go.Pur.killV_mown Go.Pur.killV_mfz Go.Pur.killV_mbor Go.Pur.killV_mrf Go.Pur.frzV_mown Go.Pur.frzV_mfz Go.Pur.frzV_mbor Go.Pur.frzV_mrf Go.Pur.killCell_mown Go.Pur.killCell_mfz Go.Pur.killCell_mbor Go.Pur.killCell_mrf Go.Pur.argv_mfz Go.Pur.argv_mbor Go.Pur.argv_mrf Go.Pur.settle_m Go.Pur.kls_v Go.Pur.kls_l Go.Pur.kls_a Go.Pur.kls_t Go.Pur.kls_r Go.Pur.kls_p Go.Pur.kls_s Go.Pur.kls_f Go.Pur.kls_i Go.Pur.kls_it Go.Pur.kls_un Go.Pur.kls_dead Go.Pur.kls_mown Go.Pur.kls_mrf Go.Pur.kls_mbor Go.Pur.kls_mfz Go.Pur.fzOf Go.Pur.takable Go.Pur.mapHere Go.Pur.mapOwn Go.Pur.mapTo Go.Pur.flat Go.Pur.toPlain toPlain.go Go.Pur.ofFlat Go.Pur.ofPair Go.Pur.mapEs Go.Pur.plook Go.Abs.lookRes Y0_mv mvOf Go.Pur.mvBlk Go.Pur.premv Y0_fzm fzmOf Go.Pur.poperX Go.Pur.pconv Go.Pur.mvOp keep22 sz3 by3 row3 zero3 sz4 by4 row4 zero4 sz5 by5 row5 zero5 sz9 by9 row9 shape9 zero9 sz21 by21 row21 zero21 sz22 by22 row22 shape22 zero22 parts22 sz24 by24 row24 zero24 parts24 field24_0 field24_1 sz25 by25 row25 shape25 zero25 parts25 sz26 by26 row26 shape26 zero26 sz28 by28 row28 zero28 sz31 by31 row31 zero31 sz35 by35 row35 shape35 zero35 sz41 by41 row41 zero41 sz43 by43 row43 zero43 parts43 field43_0 field43_1 sz58 by58 row58 zero58 mt58 az3 sz64 by64 row64 shape64 zero64 sz78 by78 row78 zero78 sz79 by79 row79 zero79 mt79 az4 sz80 by80 row80 shape80 zero80 sz88 by88 row88 zero88 sz89 by89 row89 shape89 parts89 sz90 by90 row90 zero90 sz92 by92 row92 zero92 parts92 field92_0 field92_1 sz93 by93 row93 shape93 zero93 parts93 sz94 by94 row94 zero94 sz97 by97 row97 zero97 sz98 by98 row98 zero98 mt98 sz102 by102 row102 zero102 parts102 field102_0 field102_1 sz104 by104 row104 zero104 parts104 field104_0 field104_1 sz105 by105 row105 shape105 zero105 sz106 by106 row106 zero106 mt106 sz111 by111 row111 zero111 sz120 by120 row120 zero120 sz121 by121 row121 zero121 sz125 by125 row125 zero125 Go.Pur.bs_size Go.Pur.gAt Go.Pur.gAt0 Go.Pur.sAt Go.Pur.sAt0 Go.Pur.optPlain Go.Pur.rows_len Go.Pur.noMaker_eq Go.Abs.kindOf Go.Pur.vlOf Go.Pur.abin_rem Go.Pur.abin_quo Go.Pur.mayTurn_none Go.Pur.lowOf_none Go.Pur.partAt Go.Pur.rows_nil Go.Pur.rows_cons Go.Pur.ble_add Go.Pur.ble_add0 Go.Pur.ble_same Go.Pur.toPlain toPlain.go Go.Pur.intIn2_0 Go.Pur.intIn2_1 Go.Pur.ble12 Go.Pur.ble22 Go.Pur.tv Go.Pur.lv Go.Pur.max_int Go.Pur.min_int Go.Pur.pplains Go.Pur.ak_true Go.Pur.ak_false Go.Pur.apartP Go.Pur.beq_add Go.Pur.beq_add0 Go.Pur.beq_add1 Go.Pur.argv_s Go.Pur.wok_none Go.Pur.wok_low_iff Go.Pur.lowOf_wok keep8 keep11 keep21 keep10 keep23 keep24 keep9
theorem decode_hi {s : ByteArray} {i : Nat} (h : 128 ≤ (s.get! i).toNat) : 128 ≤ (Utf8.decode s i).1 := by
 unfold Utf8.decode
 simp only [Nat.add_zero]
 rw [if_neg (by omega)]
 repeat' split
 all_goals first
  | (simp only [Bool.and_eq_true,decide_eq_true_eq,ge_iff_le] at *; omega)
  | (simp only [Utf8.runeError]; omega)
theorem bs_get {l : List UInt8} {k : Nat} (h : k < l.length) : (bs l).get! k = l[k] := by
 simp [ByteArray.get!,h]
theorem f25_is {l : List UInt8} {r : Int} {hp : List (Option (List PV))} (h : some (checkW l) = some r) : E Tryd.prog Y0 22 [.v (.string (bs l))] hp = some (iv r,hp,none) := by
 cases h
 rw [E_bodyN 1 body22 rfl (by decide) rfl]
 simp only [Tryd.f22,Option.get_some]
 unfold checkW
 by_cases h10 : 10 < l.length
 ·have h1 : (10 : Int) < (l.length : Int) := by omega
  rw [if_pos h10]
  simp [h1]
 ·have h1 : ¬ (10 : Int) < (l.length : Int) := by omega
  rw [if_neg h10]
  obtain ⟨r0,hr0⟩ : ∃ r0,(if l.all letW = true then (0 : Int) else 10) = r0 := ⟨_,rfl⟩
  rw [hr0]
  simp [h1]
  refine loop_ind (fun m σ => ∃ (k : Nat) (ts : Tr PV) (w : Option Nat),m + k = l.length ∧ wok hp.length w ∧ (l.take k).all letW = true ∧ σ = ⟨[],ts,hp,w⟩ ∧ ts.get 9 = some (.it (bs l) k)) (n0 := l.length) ?_ ?_
  ·exact ⟨0,_,_,by omega,by simp,by simp,rfl,by simp⟩
  ·rintro m σ ⟨k,ts,w,hm,hw,hall,rfl,g9⟩ ih
   by_cases hk : k < l.length
   ·have hb : Nat.ble (k + 1) l.length = true := ble_true hk
    by_cases hc : letW l[k] = true
    ·have hl : 97 ≤ l[k].toNat ∧ l[k].toNat < 103 := by simpa [letW] using hc
     have hd : Utf8.decode (bs l) k = (l[k].toNat,1) := gA_ok (by
      unfold gA
      rw [List.getElem?_eq_getElem hk]
      simp only []
      rw [show Nat.blt l[k].toNat 128 = true from Nat.ble_eq_true_of_le (by omega)])
     have c1 : ¬ (l[k].toNat : Int) < 97 := by omega
     have c2 : ¬ (103 : Int) ≤ (l[k].toNat : Int) := by omega
     generalize hx : l[k] = x at *
     simp [g9,hb,hd,c1,c2]
     refine ih (m - 1) _ (by omega) ⟨k + 1,_,_,by omega,by simp [hw], ?_,rfl,by simp⟩
     rw [List.take_add_one,List.getElem?_eq_getElem hk,List.all_append,hall,hx]
     simp [hc]
    ·have hf : l.all letW = false := by
      rw [← Bool.not_eq_true,List.all_eq_true]
      intro h
      exact hc (h _ (List.getElem_mem hk))
     have hd : (Utf8.decode (bs l) k).1 < 97 ∨ 103 ≤ (Utf8.decode (bs l) k).1 := by
      by_cases h128 : 128 ≤ l[k].toNat
      ·have := decode_hi (s := bs l) (i := k) (by rw [bs_get hk]; exact h128)
       omega
      ·have hd : Utf8.decode (bs l) k = (l[k].toNat,1) := gA_ok (by
        unfold gA
        rw [List.getElem?_eq_getElem hk]
        simp only []
        rw [show Nat.blt l[k].toNat 128 = true from Nat.ble_eq_true_of_le (by omega)])
       rw [hd]
       have : ¬ (97 ≤ l[k].toNat ∧ l[k].toNat < 103) := by simpa [letW] using hc
       simp only []
       omega
     rw [hf] at hr0
     obtain rfl : (10 : Int) = r0 := hr0
     clear ih
     rcases hd with hd | hd
     ·have c1 : ((Utf8.decode (bs l) k).1 : Int) < 97 := by omega
      simp [g9,hb,c1,hw]
     ·have c1 : ¬ ((Utf8.decode (bs l) k).1 : Int) < 97 := by omega
      have c2 : (103 : Int) ≤ ((Utf8.decode (bs l) k).1 : Int) := by omega
      simp [g9,hb,c1,c2,hw]
   ·have hb : Nat.ble (k + 1) l.length = false := bleF (by omega)
    rw [List.take_of_length_le (by omega)] at hall
    rw [hall] at hr0
    obtain rfl : (0 : Int) = r0 := hr0
    clear ih
    simp [g9,hb,hw]
def f24_L0 (F : Nat) (p0 : List Int) (p1 : List Int) (K : Unit → Option (Bool)) : Nat → Int → Option (Bool)
  | 0,_ => none
  | n + 1,v4 => (some ((p0.length : Int))).bind fun x5 =>
    (some (decide (v4 < x5))).bind fun x6 =>
    (match x6 with
    | true => ((gI p0 v4).bind fun y7 =>
    (gI p1 v4).bind fun y8 =>
    (some (decide (y7 = y8))).bind fun x9 =>
    (match x9 with
    | true => ((some (IntKind.i64.wrap (v4 + 1))).bind fun x10 =>
    f24_L0 F p0 p1 K n x10)
    | false => (some false)))
    | false => (K ()))
def f24S (F : Nat) (p0 : List Int) (p1 : List Int) : Option (Bool) :=
  (some ((p0.length : Int))).bind fun x1 =>
  (some ((p1.length : Int))).bind fun x2 =>
  (some (decide (x1 = x2))).bind fun x3 =>
  (match x3 with
  | true => (f24_L0 F p0 p1 (fun _ =>
    some true) F 0)
  | false => (some false))
theorem f24_is {a0 : Bool} {c0 : Ck} {p0 : List Int} {a1 : Bool} {c1 : Ck} {p1 : List Int} {hp : List (Option (List PV))} {F : Nat} {r : (Bool)}  (h : f24S F p0 p1 = some r) :
    E Tryd.prog Y0 11 [.l (ak a0) c0 p0.length (p0.map iv),.l (ak a1) c1 p1.length (p1.map iv)] hp = some (.v (.bool r),hp,none) := by
  rw [E_bodyN 2 body11 rfl (by decide) rfl]
  simp only [Tryd.f11,Option.get_some]
  unfold f24S at h
  obtain ⟨x1,ex1,h⟩ := bindT h
  obtain ⟨x2,ex2,h⟩ := bindT h
  obtain ⟨x3,ex3,h⟩ := bindT h
  cases x3
  case false =>
   obtain rfl := inj_ok h
   simp [ex1,ex2,ex3]
  simp [ex1,ex2,ex3]
  have hL0 := h; clear h
  refine loopS (S := f24_L0 F p0 p1) (fun v4 σ => ∃ (ts : Tr PV) (w : Option Nat),wok hp.length w ∧ σ = ⟨[],ts,hp,w⟩ ∧ ts.get 0 = some (.l (ak a0) c0 p0.length (p0.map iv)) ∧ ts.get 1 = some (.l (ak a1) c1 p1.length (p1.map iv)) ∧ ts.get 5 = some (iv v4) ∧ True) (fun _ σ => ∃ (ts : Tr PV) (w : Option Nat),wok hp.length w ∧ σ = ⟨[],ts,hp,w⟩ ∧ True) (fun _ => rfl) hL0 ?_ ?_ ?_
  · exact ⟨_,_,by simp,rfl,by simp [ex1,ex2,ex3]⟩
  · rintro ⟨⟩ σ ⟨ts,w,hw,rfl,-⟩ h
    clear hL0
    try dsimp only at h
    obtain rfl := inj_ok h
    simp [hw]
  · rintro k n v4 σ ⟨ts,w,hw,rfl,g0,g1,g5,-⟩ h ih ex
    clear hL0
    rw [f24_L0] at h
    obtain ⟨x5,ex5,h⟩ := bindT h
    obtain ⟨x6,ex6,h⟩ := bindT h
    cases x6
    case false =>
     simp [g0,g1,g5,ex5,ex6]
     refine ex () _ ?_ h
     exact ⟨_,_,by simp [hw],rfl,by simp [g0,g1,g5,ex5,ex6]⟩
    obtain ⟨y7,ey7,h⟩ := bind_ok h
    obtain ⟨ey7a,ey7e,ey7b,ey7c,ey7g⟩ := gI_ok rfl ey7
    obtain ⟨y8,ey8,h⟩ := bind_ok h
    obtain ⟨ey8a,ey8e,ey8b,ey8c,ey8g⟩ := gI_ok rfl ey8
    obtain ⟨x9,ex9,h⟩ := bindT h
    cases x9
    case false =>
     obtain rfl := inj_ok h
     simp [g0,g1,g5,ex5,ex6,ey7a,ey7b,ey7c,ey8a,ey8b,ey8c,ex9,hw]
    obtain ⟨x10,ex10,h⟩ := bindT h
    simp [g0,g1,g5,ex5,ex6,ey7a,ey7b,ey7c,ey8a,ey8b,ey8c,ex9,ex10]
    refine ih x10 _ ?_ h
    exact ⟨_,_,by simp [hw],rfl,by simp [g0,g1,g5,ex5,ex6,ey7a,ey7b,ey7c,ey8a,ey8b,ey8c,ex9,ex10]⟩
def f57_L0 (F : Nat) (p0 : List (List UInt8)) (x1 : Int) (K : Unit → Option (Int)) : Nat → Int → Option (Int)
  | 0,_ => none
  | n + 1,v2 => (some (decide (v2 < x1))).bind fun x3 =>
    (match x3 with
    | true => ((gI p0 v2).bind fun y4 =>
    (some (checkW y4)).bind fun x5 =>
    (some (decide (x5 = 0))).bind fun x6 =>
    (match x6 with
    | true => ((some (IntKind.i64.wrap (v2 + 1))).bind fun x7 =>
    f57_L0 F p0 x1 K n x7)
    | false => (some x5)))
    | false => (K ()))
def f57S (F : Nat) (p0 : List (List UInt8)) : Option (Int) :=
  (some ((p0.length : Int))).bind fun x1 =>
  f57_L0 F p0 x1 (fun _ =>
    some 0) F 0
theorem f57_is {a0 : Bool} {c0 : Ck} {p0 : List (List UInt8)} {hp : List (Option (List PV))} {F : Nat} {r : (Int)}  (h : f57S F p0 = some r) :
    E Tryd.prog Y0 21 [.l (ak a0) c0 p0.length (p0.map tv)] hp = some (iv r,hp,none) := by
  rw [E_bodyN 1 body21 rfl (by decide) rfl]
  simp only [Tryd.f21,Option.get_some]
  unfold f57S at h
  cases a0 with
  | true =>
    obtain ⟨x1,ex1,h⟩ := bindT h
    simp [ex1]
    have hL0 := h; clear h
    refine loopS (S := f57_L0 F p0 x1) (fun v2 σ => ∃ (ts : Tr PV) (w : Option Nat),wok hp.length w ∧ σ = ⟨[],ts,hp,w⟩ ∧ ts.get 6 = some (.l .bor c0 p0.length (p0.map tv)) ∧ ts.get 7 = some (iv x1) ∧ ts.get 8 = some (iv v2) ∧ True) (fun _ σ => ∃ (ts : Tr PV) (w : Option Nat),wok hp.length w ∧ σ = ⟨[],ts,hp,w⟩ ∧ True) (fun _ => rfl) hL0 ?_ ?_ ?_
    · exact ⟨_,_,by simp,rfl,by simp [ex1]⟩
    · rintro ⟨⟩ σ ⟨ts,w,hw,rfl,-⟩ h
      clear hL0
      try dsimp only at h
      obtain rfl := inj_ok h
      simp [hw]
    · rintro k n v2 σ ⟨ts,w,hw,rfl,g6,g7,g8,-⟩ h ih ex
      clear hL0
      rw [f57_L0] at h
      obtain ⟨x3,ex3,h⟩ := bindT h
      cases x3
      case false =>
       simp [g6,g7,g8,ex3]
       refine ex () _ ?_ h
       exact ⟨_,_,by simp [hw],rfl,by simp [g6,g7,g8,ex3]⟩
      obtain ⟨y4,ey4,h⟩ := bind_ok h
      obtain ⟨ey4a,ey4e,ey4b,ey4c,ey4g⟩ := gI_ok rfl ey4
      obtain ⟨x5,ex5,h⟩ := bind_ok h
      have ex5 : ∀ hp,E Tryd.prog Y0 22 [.v (.string (bs y4))] hp = some (iv x5,hp,none) := fun hp => f25_is ex5
      obtain ⟨x6,ex6,h⟩ := bindT h
      cases x6
      case false =>
       obtain rfl := inj_ok h
       simp [g6,g7,g8,ex3,ey4a,ey4b,ey4c,tv,ex5,ex6,hw]
      obtain ⟨x7,ex7,h⟩ := bindT h
      simp [g6,g7,g8,ex3,ey4a,ey4b,ey4c,tv,ex5,ex6,ex7]
      refine ih x7 _ ?_ h
      exact ⟨_,_,by simp [hw],rfl,by simp [g6,g7,g8,ex3,ey4a,ey4b,ey4c,tv,ex5,ex6,ex7]⟩
  | false =>
    obtain ⟨x1,ex1,h⟩ := bindT h
    simp [ex1]
    have hL0 := h; clear h
    refine loopS (S := f57_L0 F p0 x1) (fun v2 σ => ∃ (ts : Tr PV) (w : Option Nat),wok hp.length w ∧ σ = ⟨[],ts,hp,w⟩ ∧ ts.get 6 = some (.l .fz c0 p0.length (p0.map tv)) ∧ ts.get 7 = some (iv x1) ∧ ts.get 8 = some (iv v2) ∧ True) (fun _ σ => ∃ (ts : Tr PV) (w : Option Nat),wok hp.length w ∧ σ = ⟨[],ts,hp,w⟩ ∧ True) (fun _ => rfl) hL0 ?_ ?_ ?_
    · exact ⟨_,_,by simp,rfl,by simp [ex1]⟩
    · rintro ⟨⟩ σ ⟨ts,w,hw,rfl,-⟩ h
      clear hL0
      try dsimp only at h
      obtain rfl := inj_ok h
      simp [hw]
    · rintro k n v2 σ ⟨ts,w,hw,rfl,g6,g7,g8,-⟩ h ih ex
      clear hL0
      rw [f57_L0] at h
      obtain ⟨x3,ex3,h⟩ := bindT h
      cases x3
      case false =>
       simp [g6,g7,g8,ex3]
       refine ex () _ ?_ h
       exact ⟨_,_,by simp [hw],rfl,by simp [g6,g7,g8,ex3]⟩
      obtain ⟨y4,ey4,h⟩ := bind_ok h
      obtain ⟨ey4a,ey4e,ey4b,ey4c,ey4g⟩ := gI_ok rfl ey4
      obtain ⟨x5,ex5,h⟩ := bind_ok h
      have ex5 : ∀ hp,E Tryd.prog Y0 22 [.v (.string (bs y4))] hp = some (iv x5,hp,none) := fun hp => f25_is ex5
      obtain ⟨x6,ex6,h⟩ := bindT h
      cases x6
      case false =>
       obtain rfl := inj_ok h
       simp [g6,g7,g8,ex3,ey4a,ey4b,ey4c,tv,ex5,ex6,hw]
      obtain ⟨x7,ex7,h⟩ := bindT h
      simp [g6,g7,g8,ex3,ey4a,ey4b,ey4c,tv,ex5,ex6,ex7]
      refine ih x7 _ ?_ h
      exact ⟨_,_,by simp [hw],rfl,by simp [g6,g7,g8,ex3,ey4a,ey4b,ey4c,tv,ex5,ex6,ex7]⟩
def f20_L1 (F : Nat) (p1 : List UInt8) (y17 : Int) (K : List Int → Option (Int × Int)) : Nat → Int × List Int → Option (Int × Int)
  | 0,_ => none
  | n + 1,(v19,m20) => (some (decide (0 < v19))).bind fun x21 =>
    (match x21 with
    | true => ((some (IntKind.i64.wrap (v19 - 1))).bind fun x22 =>
    (gS p1 x22).bind fun x23 =>
    (some (decide (x23 = y17))).bind fun x24 =>
    (match x24 with
    | true => ((gI m20 v19).bind fun y25 =>
    (gI m20 x22).bind fun y26 =>
    (some (IntKind.i64.wrap (y25 + y26))).bind fun x27 =>
    (sI m20 v19 x27).bind fun m28 =>
    f20_L1 F p1 y17 K n (x22,m28))
    | false => (f20_L1 F p1 y17 K n (x22,m20))))
    | false => (K m20))
def f20_L0 (F : Nat) (p1 : List UInt8) (x12 : List Int) (x13 : Int) (K : List Int → Option (Int × Int)) : Nat → Int × List Int → Option (Int × Int)
  | 0,_ => none
  | n + 1,(v14,m15) => (some (decide (v14 < x13))).bind fun x16 =>
    (match x16 with
    | true => ((gI x12 v14).bind fun y17 =>
    (some ((p1.length : Int))).bind fun x18 =>
    f20_L1 F p1 y17 (fun m29 =>
      (some (IntKind.i64.wrap (v14 + 1))).bind fun x30 =>
      f20_L0 F p1 x12 x13 K n (x30,m29)) F (x18,m15))
    | false => (K m15))
def f20S (F : Nat) (p0 : List UInt8) (p1 : List UInt8) : Option (Int × Int) :=
  (f57S F [p0,p1]).bind fun x1 =>
  (some (decide (x1 = 0))).bind fun x3 =>
  (match x3 with
  | true => ((some ((p1.length : Int))).bind fun x4 =>
  (some (IntKind.i64.wrap (x4 + 1))).bind fun x5 =>
  (mkN x5).bind fun x6 =>
  (gN x6).bind fun x7 =>
  (some (List.replicate x6 (0 : Int))).bind fun m9 =>
  (gI m9 0).bind fun y10 =>
  (sI m9 0 1).bind fun m11 =>
  (bytO p0).bind fun x12 =>
  (some ((x12.length : Int))).bind fun x13 =>
  f20_L0 F p1 x12 x13 (fun m31 =>
    (some ((p1.length : Int))).bind fun x32 =>
    (gI m31 x32).bind fun y33 =>
    some (y33,0)) F (0,m11))
  | false => (some (0,x1)))
theorem f20_is {p0 : List UInt8} {p1 : List UInt8} {hp : List (Option (List PV))} {F : Nat} {r : (Int × Int)}  (h : f20S F p0 p1 = some r) :
    E Tryd.prog Y0 8 [.v (.string (bs p0)),.v (.string (bs p1))] hp = some (.t [iv r.1,iv r.2],hp,none) := by
  rw [E_bodyN 2 body8 rfl (by decide) rfl]
  simp only [Tryd.f8,Option.get_some]
  unfold f20S at h
  replace h := bind_ok h; obtain ⟨x1,e2,h⟩ := h
  have e2 : ∀ hp,E Tryd.prog Y0 21 [.l .fz .full 2 [.v (.string (bs p0)),.v (.string (bs p1))]] hp = some (iv x1,hp,none) := fun hp => f57_is (a0 := false) (c0 := .full) e2
  replace h := bindT h; obtain ⟨x3,ex3,h⟩ := h
  cases x3
  case false =>
   obtain rfl := inj_ok h
   simp [e2,ex3]
  replace h := bindT h; obtain ⟨x4,ex4,h⟩ := h
  replace h := bindT h; obtain ⟨x5,ex5,h⟩ := h
  replace h := bind_ok h; obtain ⟨x6,ex6,h⟩ := h
  obtain ⟨ex6a,ex6b,ex6c⟩ := mkN_ok ex6
  subst ex6a
  replace h := bind_ok h; obtain ⟨x7,ex7,h⟩ := h
  have ex7 := gN_ok ex7 10 (by decide)
  replace h := bind_ok h; obtain ⟨m9,em9,h⟩ := h
  have em9 := inj_ok em9
  have em9r : reps [iv 0] x6 = m9.map iv := by rw [← em9]; exact reps_rep
  have hl0 : m9.length = x6 := by rw [← em9]; exact rep_len
  replace h := bind_ok h; obtain ⟨y10,ey10,h⟩ := h
  obtain ⟨ey10a,ey10b,ey10c⟩ := gI_lit (k := 0) hl0 ey10
  have ey10a : ∀ j,intIn x6 (.int j 0) = some 0 := ey10a
  replace h := bind_ok h; obtain ⟨m11,em11,h⟩ := h
  obtain ⟨em11a,em11e,em11l,em11s,em11q⟩ := sI_ok iv hl0 em11
  replace em11s : spliceP 0 _ _ = _ := em11s
  have hl0 := em11l
  replace h := bind_ok h; obtain ⟨x12,ex12,h⟩ := h
  obtain ⟨ex12l,ex12m,ex12s⟩ := bytO_ok ex12
  replace h := bindT h; obtain ⟨x13,ex13,h⟩ := h
  simp [e2,ex3,ex4,ex5,ex7,em9r,hl0,ey10a,ey10b,ey10c,em11a,em11s,ex12l,ex12m,ex12s,ex13]
  have hL0 := h; clear h
  refine loopS (S := f20_L0 F p1 x12 x13) (fun (v14,m15) σ => ∃ (ts : Tr PV) (w : Option Nat),wok hp.length w ∧ σ = ⟨[],ts,hp ++ [some (m15.map iv)],w⟩ ∧ ts.get 1 = some (.v (.string (bs p1))) ∧ ts.get 7 = some (.s hp.length 0 x6 x6) ∧ ts.get 25 = some (.l .fz .any x12.length (x12.map (kv .u8))) ∧ ts.get 26 = some (iv x13) ∧ ts.get 27 = some (iv v14) ∧ m15.length = x6 ∧ True) (fun m31 σ => ∃ (ts : Tr PV) (w : Option Nat),wok hp.length w ∧ σ = ⟨[],ts,hp ++ [some (m31.map iv)],w⟩ ∧ ts.get 1 = some (.v (.string (bs p1))) ∧ ts.get 7 = some (.s hp.length 0 x6 x6) ∧ m31.length = x6 ∧ True) (fun _ => rfl) hL0 ?_ ?_ ?_
  · exact ⟨_,_,by simp,rfl,by simp [e2,ex3,ex4,ex5,ex7,em9r,hl0,ey10a,ey10b,ey10c,em11a,em11s,ex12l,ex12m,ex12s,ex13]⟩
  · rintro m31 σ ⟨ts,w,hw,rfl,g1,g7,hl0,-⟩ h
    clear hL0
    try dsimp only at h
    replace h := bindT h; obtain ⟨x32,ex32,h⟩ := h
    replace h := bind_ok h; obtain ⟨y33,ey33,h⟩ := h
    obtain ⟨ey33a,ey33e,ey33b,ey33c,ey33g⟩ := gI_ok hl0 ey33
    obtain rfl := inj_ok h
    simp [g1,g7,hl0,ex32,ey33a,ey33b,ey33c,hw]
  · rintro k n ⟨v14,m15⟩ σ ⟨ts,w,hw,rfl,g1,g7,g25,g26,g27,hl0,-⟩ h ih ex
    clear hL0
    rw [f20_L0] at h
    replace h := bindT h; obtain ⟨x16,ex16,h⟩ := h
    cases x16
    case false =>
     simp [g1,g7,g25,g26,g27,hl0,ex16]
     refine ex m15 _ ?_ h
     exact ⟨_,_,by simp [hw],rfl,by simp [g1,g7,g25,g26,g27,hl0,ex16]⟩
    replace h := bind_ok h; obtain ⟨y17,ey17,h⟩ := h
    obtain ⟨ey17a,ey17e,ey17b,ey17c,ey17g⟩ := gI_ok rfl ey17
    replace h := bindT h; obtain ⟨x18,ex18,h⟩ := h
    simp [g1,g7,g25,g26,g27,hl0,ex16,ey17a,ey17b,ey17c,ex18]
    have hL1 := h; clear h
    refine loopS (S := f20_L1 F p1 y17) (fun (v19,m20) σ => ∃ (ts : Tr PV) (w : Option Nat),wok hp.length w ∧ σ = ⟨[],ts,hp ++ [some (m20.map iv)],w⟩ ∧ ts.get 1 = some (.v (.string (bs p1))) ∧ ts.get 7 = some (.s hp.length 0 x6 x6) ∧ ts.get 9 = some (kv .u8 y17) ∧ ts.get 10 = some (iv v19) ∧ ts.get 25 = some (.l .fz .any x12.length (x12.map (kv .u8))) ∧ ts.get 26 = some (iv x13) ∧ ts.get 27 = some (iv v14) ∧ m20.length = x6 ∧ True) (fun m29 σ => ∃ (ts : Tr PV) (w : Option Nat),wok hp.length w ∧ σ = ⟨[],ts,hp ++ [some (m29.map iv)],w⟩ ∧ ts.get 1 = some (.v (.string (bs p1))) ∧ ts.get 7 = some (.s hp.length 0 x6 x6) ∧ ts.get 25 = some (.l .fz .any x12.length (x12.map (kv .u8))) ∧ ts.get 26 = some (iv x13) ∧ ts.get 27 = some (iv v14) ∧ m29.length = x6 ∧ True) (fun _ => rfl) hL1 ?_ ?_ ?_
    · exact ⟨_,_,by simp [hw],rfl,by simp [g1,g7,g25,g26,g27,hl0,ex16,ey17a,ey17b,ey17c,ex18]⟩
    · rintro m29 σ ⟨ts,w,hw,rfl,g1,g7,g25,g26,g27,hl0,-⟩ h
      clear hL1
      try dsimp only at h
      replace h := bindT h; obtain ⟨x30,ex30,h⟩ := h
      simp [g1,g7,g25,g26,g27,hl0,ex30]
      refine ih (x30,m29) _ ?_ h
      exact ⟨_,_,by simp [hw],rfl,by simp [g1,g7,g25,g26,g27,hl0,ex30]⟩
    · rintro k n ⟨v19,m20⟩ σ ⟨ts,w,hw,rfl,g1,g7,g9,g10,g25,g26,g27,hl0,-⟩ h ih ex
      clear hL1
      rw [f20_L1] at h
      replace h := bindT h; obtain ⟨x21,ex21,h⟩ := h
      cases x21
      case false =>
       simp [g1,g7,g9,g10,g25,g26,g27,hl0,ex21]
       refine ex m20 _ ?_ h
       exact ⟨_,_,by simp [hw],rfl,by simp [g1,g7,g9,g10,g25,g26,g27,hl0,ex21]⟩
      replace h := bindT h; obtain ⟨x22,ex22,h⟩ := h
      replace h := bind_ok h; obtain ⟨x23,ex23,h⟩ := h
      have ex23 := (gS_ok (P := Tryd.prog) (t := 9) (k := .i64) Tryd.underlying9 shape9 ex23).1
      replace h := bindT h; obtain ⟨x24,ex24,h⟩ := h
      cases x24
      case false =>
       simp [g1,g7,g9,g10,g25,g26,g27,hl0,ex21,ex22,ex23,ex24]
       refine ih (x22,m20) _ ?_ h
       exact ⟨_,_,by simp [hw],rfl,by simp [g1,g7,g9,g10,g25,g26,g27,hl0,ex21,ex22,ex23,ex24]⟩
      replace h := bind_ok h; obtain ⟨y25,ey25,h⟩ := h
      obtain ⟨ey25a,ey25e,ey25b,ey25c,ey25g⟩ := gI_ok hl0 ey25
      replace h := bind_ok h; obtain ⟨y26,ey26,h⟩ := h
      obtain ⟨ey26a,ey26e,ey26b,ey26c,ey26g⟩ := gI_ok hl0 ey26
      replace h := bindT h; obtain ⟨x27,ex27,h⟩ := h
      replace h := bind_ok h; obtain ⟨m28,em28,h⟩ := h
      obtain ⟨em28a,em28e,em28l,em28s,em28q⟩ := sI_ok iv hl0 em28
      have hl0 := em28l
      simp [g1,g7,g9,g10,g25,g26,g27,hl0,ex21,ex22,ex23,ex24,ey25a,ey25b,ey25c,ey26a,ey26b,ey26c,ex27,em28a,em28s]
      all_goals try (generalize hmt : mayTurn _ = mb; obtain rfl : mb = true := hmt.symm.trans (by kernel_rfl); clear hmt)
      all_goals try simp [g1,g7,g9,g10,g25,g26,g27,hl0,ex21,ex22,ex23,ex24,ey25a,ey25b,ey25c,ey26a,ey26b,ey26c,ex27,em28a,em28s]
      refine ih (x22,m28) _ ?_ h
      exact ⟨_,_,by simp [hw],rfl,by simp [g1,g7,g9,g10,g25,g26,g27,hl0,ex21,ex22,ex23,ex24,ey25a,ey25b,ey25c,ey26a,ey26b,ey26c,ex27,em28a,em28s]⟩
theorem conv_3_21ArchD {z : Int} : prunP Tryd.prog (convert 3 21 (.int .i64 z)) = some (.int .i32 (IntKind.i32.wrap z)) := by kernel_rfl
theorem mty79ArchD : mapTy Tryd.prog 79 = some (21,4) := by kernel_rfl
theorem shm79ArchD : shapeOf Tryd.prog 79 = none := by kernel_rfl
theorem kty21ArchD : KeyT Tryd.prog 21 (Value.int .i32) := key_int Tryd.underlying21
def f64_L0 (F : Nat) (p0 : List UInt8) (p1 : Int) (K : Unit → Option (Int)) : Nat → Nat → Option (Int)
  | 0,_ => none
  | n + 1,v5 => (some (Nat.ble (v5 + 1) p0.length)).bind fun x6 =>
    (match x6 with
    | true => ((gA p0 v5).bind fun x7 =>
    (some (IntKind.i32.wrap p1)).bind fun x8 =>
    (some (IntKind.i32.wrap (97 + x8))).bind fun x9 =>
    (some (decide (x9 ≤ (x7 : Int)))).bind fun x10 =>
    (match x10 with
    | true => (some 2)
    | false => (f64_L0 F p0 p1 K n (v5 + 1))))
    | false => (K ()))
def f64S (F : Nat) (p0 : List UInt8) (p1 : Int) : Option (Int) :=
  (some (checkW p0)).bind fun x1 =>
  (some (decide (x1 = 0))).bind fun x2 =>
  (match x2 with
  | true => ((some (decide (p1 < 1))).bind fun x3 =>
  (match x3 with
  | true => (some 1)
  | false => ((some (decide (6 < p1))).bind fun x4 =>
  (match x4 with
  | true => (some 1)
  | false => (f64_L0 F p0 p1 (fun _ =>
    some 0) F 0)))))
  | false => (some x1))
theorem f64_is {p0 : List UInt8} {p1 : Int} {hp : List (Option (List PV))} {F : Nat} {r : (Int)}  (h : f64S F p0 p1 = some r) :
    E Tryd.prog Y0 23 [.v (.string (bs p0)),iv p1] hp = some (iv r,hp,none) := by
  rw [E_bodyN 2 body23 rfl (by decide) rfl]
  simp only [Tryd.f23,Option.get_some]
  unfold f64S at h
  obtain ⟨x1,ex1,h⟩ := bind_ok h
  have ex1 : ∀ hp,E Tryd.prog Y0 22 [.v (.string (bs p0))] hp = some (iv x1,hp,none) := fun hp => f25_is ex1
  obtain ⟨x2,ex2,h⟩ := bindT h
  cases x2
  case false =>
   obtain rfl := inj_ok h
   simp [ex1,ex2]
  obtain ⟨x3,ex3,h⟩ := bindT h
  cases x3
  case true =>
   obtain rfl := inj_ok h
   simp [ex1,ex2,ex3]
  obtain ⟨x4,ex4,h⟩ := bindT h
  cases x4
  case true =>
   obtain rfl := inj_ok h
   simp [ex1,ex2,ex3,ex4]
  simp [ex1,ex2,ex3,ex4]
  have hL0 := h; clear h
  refine loopS (S := f64_L0 F p0 p1) (fun v5 σ => ∃ (ts : Tr PV) (w : Option Nat),wok hp.length w ∧ σ = ⟨[],ts,hp,w⟩ ∧ ts.get 1 = some (iv p1) ∧ ts.get 22 = some (.it (bs p0) v5) ∧ True) (fun _ σ => ∃ (ts : Tr PV) (w : Option Nat),wok hp.length w ∧ σ = ⟨[],ts,hp,w⟩ ∧ True) (fun _ => rfl) hL0 ?_ ?_ ?_
  · exact ⟨_,_,by simp,rfl,by simp [ex1,ex2,ex3,ex4]⟩
  · rintro ⟨⟩ σ ⟨ts,w,hw,rfl,-⟩ h
    clear hL0
    try dsimp only at h
    obtain rfl := inj_ok h
    simp [hw]
  · rintro k n v5 σ ⟨ts,w,hw,rfl,g1,g22,-⟩ h ih ex
    clear hL0
    rw [f64_L0] at h
    obtain ⟨x6,ex6,h⟩ := bindT h
    cases x6
    case false =>
     simp [g1,g22,ex6]
     refine ex () _ ?_ h
     exact ⟨_,_,by simp [hw],rfl,by simp [g1,g22,ex6]⟩
    obtain ⟨x7,ex7,h⟩ := bind_ok h
    have ex7 := gA_ok ex7
    obtain ⟨x8,ex8,h⟩ := bindT h
    obtain ⟨x9,ex9,h⟩ := bindT h
    obtain ⟨x10,ex10,h⟩ := bindT h
    cases x10
    case true =>
     obtain rfl := inj_ok h
     simp [g1,g22,ex6,ex7,conv_3_21ArchD,ex8,ex9,ex10,hw]
    simp [g1,g22,ex6,ex7,conv_3_21ArchD,ex8,ex9,ex10]
    refine ih (v5 + 1) _ ?_ h
    exact ⟨_,_,by simp [hw],rfl,by simp [g1,g22,ex6,ex7,conv_3_21ArchD,ex8,ex9,ex10]⟩
def f65_L0 (F : Nat) (p0 : List UInt8) (p1 : Int) (K : List Int → Option ((Ck × List Int))) : Nat → List Int × Mp Int Bool × Nat × Nat → Option ((Ck × List Int))
  | 0,_ => none
  | n + 1,(v1,m2,k3,v4) => (some (Nat.ble (v4 + 1) p0.length)).bind fun x5 =>
    (match x5 with
    | true => ((gA p0 v4).bind fun x6 =>
    (some (mSet k3 (x6 : Int) true m2)).bind fun x7 =>
    (some (mClk k3 (x6 : Int) m2)).bind fun x8 =>
    (some ((x7.length : Int))).bind fun x10 =>
    (some (decide (x10 = p1))).bind fun x11 =>
    (match x11 with
    | true => ((some (IntKind.i64.wrap ((v4 : Int) + 1))).bind fun x12 =>
    (app1 v1 x12).bind fun x13 =>
    f65_L0 F p0 p1 K n (x13,[],x8,v4 + 1))
    | false => (f65_L0 F p0 p1 K n (v1,x7,x8,v4 + 1))))
    | false => (K v1))
def f65S (F : Nat) (p0 : List UInt8) (p1 : Int) : Option ((Ck × List Int)) :=
  f65_L0 F p0 p1 (fun v14 =>
    some (.nz,v14)) F ([],[],0,0)
theorem f65_is {p0 : List UInt8} {p1 : Int} {hp : List (Option (List PV))} {F : Nat} {r : ((Ck × List Int))}  (h : f65S F p0 p1 = some r) :
    E Tryd.prog Y0 24 [.v (.string (bs p0)),iv p1] hp = some (.l .own r.1 r.2.length (r.2.map iv),hp,none) := by
  rw [E_bodyN 2 body24 rfl (by decide) rfl]
  simp only [Tryd.f24,Option.get_some]
  unfold f65S at h
  simp [mE_nil]
  have hL0 := h; clear h
  refine loopS (S := f65_L0 F p0 p1) (fun (v1,m2,k3,v4) σ => ∃ (ts : Tr PV) (w : Option Nat),wok hp.length w ∧ σ = ⟨[],ts,hp,w⟩ ∧ ts.get 1 = some (iv p1) ∧ ts.get 5 = some (.l .own .nz v1.length (v1.map iv)) ∧ ts.get 6 = some (.m .own (mE (Value.int .i32) Value.bool m2) k3) ∧ ts.get 11 = some (.it (bs p0) v4) ∧ True) (fun v14 σ => ∃ (ts : Tr PV) (w : Option Nat),wok hp.length w ∧ σ = ⟨[],ts,hp,w⟩ ∧ ts.get 5 = some (.l .own .nz v14.length (v14.map iv)) ∧ True) (fun _ => rfl) hL0 ?_ ?_ ?_
  · exact ⟨_,_,by simp,rfl,by simp [mE_nil]⟩
  · rintro v14 σ ⟨ts,w,hw,rfl,g5,-⟩ h
    clear hL0
    try dsimp only at h
    obtain rfl := inj_ok h
    simp [g5,hw]
  · rintro k n ⟨v1,m2,k3,v4⟩ σ ⟨ts,w,hw,rfl,g1,g5,g6,g11,-⟩ h ih ex
    clear hL0
    rw [f65_L0] at h
    obtain ⟨x5,ex5,h⟩ := bindT h
    cases x5
    case false =>
     simp [g1,g5,g6,g11,ex5]
     refine ex v1 _ ?_ h
     exact ⟨_,_,by simp [hw],rfl,by simp [g1,g5,g6,g11,ex5]⟩
    obtain ⟨x6,ex6,h⟩ := bind_ok h
    have ex6 := gA_ok ex6
    obtain ⟨x7,ex7,h⟩ := bindT h
    obtain ⟨x8,ex8,h⟩ := bindT h
    have q9 : aupd Tryd.prog 79 (mE (Value.int .i32) Value.bool m2) k3 (.int .i32 (x6 : Int)) (.bool true) = some ((mE (Value.int .i32) Value.bool x7),x8) := (upd_m (kf := (Value.int .i32)) (vf := Value.bool) (l := m2) (k := (x6 : Int)) (v := true) mty79ArchD kty21ArchD).trans (by rw [ex7,ex8])
    obtain ⟨x10,ex10,h⟩ := bindT h
    obtain ⟨x11,ex11,h⟩ := bindT h
    cases x11
    case false =>
     simp [g1,g5,g6,g11,ex5,ex6,mty79ArchD,Tryd.underlying79,mE_nil,shm79ArchD,ex7,ex8,q9,mE_len,ex10,ex11]
     refine ih (v1,x7,x8,v4 + 1) _ ?_ h
     exact ⟨_,_,by simp [hw],rfl,by simp [g1,g5,g6,g11,ex5,ex6,mty79ArchD,Tryd.underlying79,mE_nil,shm79ArchD,ex7,ex8,q9,mE_len,ex10,ex11]⟩
    obtain ⟨x12,ex12,h⟩ := bindT h
    obtain ⟨x13,ex13,h⟩ := bind_ok h
    obtain ⟨ex13a,ex13b,ex13c,ex13q⟩ := app1_ok iv ex13
    have ex13b := ex13b 10 (by decide)
    simp [g1,g5,g6,g11,ex5,ex6,mty79ArchD,Tryd.underlying79,mE_nil,shm79ArchD,ex7,ex8,q9,mE_len,ex10,ex11,ex12,ex13a,ex13b,ex13c]
    refine ih (x13,[],x8,v4 + 1) _ ?_ h
    exact ⟨_,_,by simp [hw],rfl,by simp [g1,g5,g6,g11,ex5,ex6,mty79ArchD,Tryd.underlying79,mE_nil,shm79ArchD,ex7,ex8,q9,mE_len,ex10,ex11,ex12,ex13a,ex13b,ex13c]⟩
theorem mty58CountD : mapTy Tryd.prog 58 = some (21,3) := by kernel_rfl
theorem shm58CountD : shapeOf Tryd.prog 58 = none := by kernel_rfl
theorem kty21CountD : KeyT Tryd.prog 21 (Value.int .i32) := key_int Tryd.underlying21
def f29_L0 (F : Nat) (p0 : List UInt8) (K : Int → Option (Int × Int)) : Nat → Int × Mp Int Int × Nat × Nat → Option (Int × Int)
  | 0,_ => none
  | n + 1,(v3,m4,k5,v6) => (some (Nat.ble (v6 + 1) p0.length)).bind fun x7 =>
    (match x7 with
    | true => ((gA p0 v6).bind fun x8 =>
    (some (mulI .i64 2 v3)).bind fun x9 =>
    (some (mGetD 0 (x8 : Int) m4)).bind fun x11 =>
    (some (IntKind.i64.wrap (x9 - x11))).bind fun x12 =>
    (some (mSet k5 (x8 : Int) v3 m4)).bind fun x13 =>
    (some (mClk k5 (x8 : Int) m4)).bind fun x14 =>
    f29_L0 F p0 K n (x12,x13,x14,v6 + 1))
    | false => (K v3))
def f29S (F : Nat) (p0 : List UInt8) : Option (Int × Int) :=
  (some (checkW p0)).bind fun x1 =>
  (some (decide (x1 = 0))).bind fun x2 =>
  (match x2 with
  | true => (f29_L0 F p0 (fun v16 =>
    some (v16,0)) F (1,[],0,0))
  | false => (some (0,x1)))
theorem f29_is {p0 : List UInt8} {hp : List (Option (List PV))} {F : Nat} {r : (Int × Int)}  (h : f29S F p0 = some r) :
    E Tryd.prog Y0 9 [.v (.string (bs p0))] hp = some (.t [iv r.1,iv r.2],hp,none) := by
  rw [E_bodyN 1 body9 rfl (by decide) rfl]
  simp only [Tryd.f9,Option.get_some]
  unfold f29S at h
  obtain ⟨x1,ex1,h⟩ := bind_ok h
  have ex1 : ∀ hp,E Tryd.prog Y0 22 [.v (.string (bs p0))] hp = some (iv x1,hp,none) := fun hp => f25_is ex1
  obtain ⟨x2,ex2,h⟩ := bindT h
  cases x2
  case false =>
   obtain rfl := inj_ok h
   simp [ex1,ex2]
  simp [ex1,ex2,mE_nil]
  have hL0 := h; clear h
  refine loopS (S := f29_L0 F p0) (fun (v3,m4,k5,v6) σ => ∃ (ts : Tr PV) (w : Option Nat),wok hp.length w ∧ σ = ⟨[],ts,hp,w⟩ ∧ ts.get 5 = some (iv v3) ∧ ts.get 6 = some (.m .own (mE (Value.int .i32) (Value.int .i64) m4) k5) ∧ ts.get 17 = some (.it (bs p0) v6) ∧ True) (fun v16 σ => ∃ (ts : Tr PV) (w : Option Nat),wok hp.length w ∧ σ = ⟨[],ts,hp,w⟩ ∧ ts.get 5 = some (iv v16) ∧ True) (fun _ => rfl) hL0 ?_ ?_ ?_
  · exact ⟨_,_,by simp,rfl,by simp [ex1,ex2,mE_nil]⟩
  · rintro v16 σ ⟨ts,w,hw,rfl,g5,-⟩ h
    clear hL0
    try dsimp only at h
    obtain rfl := inj_ok h
    simp [g5,hw]
  · rintro k n ⟨v3,m4,k5,v6⟩ σ ⟨ts,w,hw,rfl,g5,g6,g17,-⟩ h ih ex
    clear hL0
    rw [f29_L0] at h
    obtain ⟨x7,ex7,h⟩ := bindT h
    cases x7
    case false =>
     simp [g5,g6,g17,ex7]
     refine ex v3 _ ?_ h
     exact ⟨_,_,by simp [hw],rfl,by simp [g5,g6,g17,ex7]⟩
    obtain ⟨x8,ex8,h⟩ := bind_ok h
    have ex8 := gA_ok ex8
    obtain ⟨x9,ex9,h⟩ := bindT h
    obtain ⟨x11,ex11,h⟩ := bindT h
    have q10 : alook Tryd.prog 58 (mE (Value.int .i32) (Value.int .i64) m4) (.int .i32 (x8 : Int)) false = some (.int .i64 x11) := (look_m (kf := (Value.int .i32)) (vf := (Value.int .i64)) (l := m4) (k := (x8 : Int)) (d := 0) mty58CountD kty21CountD (by kernel_rfl) (fun _ => rfl) (ok := false)).trans (by rw [ex11]; rfl)
    obtain ⟨x12,ex12,h⟩ := bindT h
    obtain ⟨x13,ex13,h⟩ := bindT h
    obtain ⟨x14,ex14,h⟩ := bindT h
    have q15 : aupd Tryd.prog 58 (mE (Value.int .i32) (Value.int .i64) m4) k5 (.int .i32 (x8 : Int)) (.int .i64 v3) = some ((mE (Value.int .i32) (Value.int .i64) x13),x14) := (upd_m (kf := (Value.int .i32)) (vf := (Value.int .i64)) (l := m4) (k := (x8 : Int)) (v := v3) mty58CountD kty21CountD).trans (by rw [ex13,ex14])
    simp [g5,g6,g17,ex7,ex8,ex9,mty58CountD,Tryd.underlying58,mE_nil,shm58CountD,ex11,q10,ex12,ex13,ex14,q15]
    refine ih (x12,x13,x14,v6 + 1) _ ?_ h
    exact ⟨_,_,by simp [hw],rfl,by simp [g5,g6,g17,ex7,ex8,ex9,mty58CountD,Tryd.underlying58,mE_nil,shm58CountD,ex11,q10,ex12,ex13,ex14,q15]⟩
end Go.Proofs.YtmnmfmghmenkkaaDoor

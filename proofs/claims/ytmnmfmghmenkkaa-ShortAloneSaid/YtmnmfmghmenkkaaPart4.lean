/-
  The seat's policy for the pure evaluator,and what its types are (printed by a tool).
  What simp needs to carry the pure evaluator through code with symbolic values.
  Unary operations,operations on bits,for the pure evaluator's walk.
  From a call of the pure evaluator that answers true to the row's own words.
  Arguments of a law,as the row reads them,for the pure evaluator.
  What is known of functions: of plain values and lists of them.
  A runner for the kernel: the pure evaluator's steps in small pieces,with an oracle of calls that are known already; what it answers,the evaluator without fuel answers.
  Strings in the pure evaluator: one byte,and parts.
  Side facts of walks,for simp with omega as discharger.
  Plain pieces of what functions compute,and what the walk needs of each; loops whose plain functions take fuel.
  Arrays of two elements,compared.
  Maps,as plain lists of keys,elements and stamps; parts of texts.
  The parts of a word by size,as short.all finds them.
  The seat's policy for the pure evaluator.
  The start of every call of this seat: no table; the one variable is a bare block.
  The chapter's examples hold in every world: a closed run of the abstract evaluator.
  Contracts of the library,laid for this seat (by the kit's own programs lay-shelf,lay-plain).
  A text that is built byte by byte: the functions of strings.Builder.
  The functions that build texts byte by byte: taken,sized,made.
  The opposite of a text (slices.Reverse: the kit's contract,laid for this seat by the kit's own programs).
  The rows of parts by size: what they hold.
  A list of lists of texts,each list in a row of its own.
  short.all: the parts of a word by size.
  ofSize: the keys of a map of one length,in ascending order.
  Conditions: none; closed facts.
-/
import Derived.Test.YtmnmfmghmenkkaaProg
import Derived.Carry
import Derived.Deep.Slices
import Derived.Deep.DeepHandedRow
import Derived.Test.YtmnmfmghmenkkaaRows
import Derived.Shelf.Small.Strs
import Derived.Shelf.Sort.Plain
import Derived.Shelf.Strings.Builder1
import Derived.Handy
import Derived.Shelf.SlicesE.Reverse
import Derived.WalkKit
import Derived.Deep.OwnRows
import Derived.Lib.OwnBridge
import Derived.Sort.OwnSorted
import Derived.Deep.DeepMust
import Derived.Deep.LoopGhost
import Derived.Lib.OthersKept
import Derived.Maps.AppendAt
import Derived.Maps.OwnSet
import Derived.Maps.RangeRun
import Derived.Test.YtmnmfmghmenkkaaPurB
import Derived.Test.YtmnmfmghmenkkaaAbsB
set_option linter.unusedSimpArgs false
set_option linter.unusedVariables false
namespace Go.Proofs.Ytmnmfmghmenkkaa
open Go.Abs Go.Pur
def masks : List Nat := [0,0,0,4325363,1572807,24563,70935696636959,14821387422376473014217110601040706059440291772052500816631215559971459748069375,5316947477356469882128542141359587295,140737488420831,311902897201156637927391223,58753015,166153499482785890669892915949468735,25961563520836652475247757547798223,1427944593798410682138273575276986457852473335,187072209662750959139081682297927136022892080266991,5,4722366482869645737983,4211,2163,4415729764083,2163,140874931274739,528627,33571891,265877,4195405,2105395,2181039219,926589,285,8819,655475,31457523,295155,33571891,2163,2199560668147,35322884853747,8606729203,8405491,4297589747,559047,137583660999,9275205348510451,2417852810169594140991475,5,5,62159,72057594043295475,1821,1966799,66931,67443,4189,13,19,33781,563,68786853831,285,138351144534133443293,71,4505833010403315,1103119539,2111987,4303388787,131635,66483,17040883,2365794927730275418055,73786976295911952327,65735,21,19,11,19,5,5,525,19,131783,66483,524353,10384593871817177683247510831234831,5,3,1,1073746119,1074268103,8804682991559,20829169751433159,8391,83087207854311395603287443752634311,19,19023213622105999119,22458641409078797123448399039441150152463,277,16661,4503668346913551,5,5,71,1055,5,262927,1,1,1,1,1,1,1,1,1,1,1,1,1,1,1,1,1]
def keepOf (f t : Nat) : Bool := masks.getD f 0 / 2 ^ t % 2 == 1
theorem keep3 (t : Nat) : keepOf 3 t = (4325363 / 2 ^ t % 2 == 1) := rfl
theorem keep4 (t : Nat) : keepOf 4 t = (1572807 / 2 ^ t % 2 == 1) := rfl
theorem keep5 (t : Nat) : keepOf 5 t = (24563 / 2 ^ t % 2 == 1) := rfl
theorem keep11 (t : Nat) : keepOf 11 t = (58753015 / 2 ^ t % 2 == 1) := rfl
theorem keep16 (t : Nat) : keepOf 16 t = (5 / 2 ^ t % 2 == 1) := rfl
theorem keep18 (t : Nat) : keepOf 18 t = (4211 / 2 ^ t % 2 == 1) := rfl
theorem keep19 (t : Nat) : keepOf 19 t = (2163 / 2 ^ t % 2 == 1) := rfl
theorem keep20 (t : Nat) : keepOf 20 t = (4415729764083 / 2 ^ t % 2 == 1) := rfl
theorem keep21 (t : Nat) : keepOf 21 t = (2163 / 2 ^ t % 2 == 1) := rfl
theorem keep22 (t : Nat) : keepOf 22 t = (140874931274739 / 2 ^ t % 2 == 1) := rfl
theorem keep23 (t : Nat) : keepOf 23 t = (528627 / 2 ^ t % 2 == 1) := rfl
theorem keep24 (t : Nat) : keepOf 24 t = (33571891 / 2 ^ t % 2 == 1) := rfl
theorem keep25 (t : Nat) : keepOf 25 t = (265877 / 2 ^ t % 2 == 1) := rfl
theorem keep26 (t : Nat) : keepOf 26 t = (4195405 / 2 ^ t % 2 == 1) := rfl
theorem keep27 (t : Nat) : keepOf 27 t = (2105395 / 2 ^ t % 2 == 1) := rfl
theorem keep28 (t : Nat) : keepOf 28 t = (2181039219 / 2 ^ t % 2 == 1) := rfl
theorem keep29 (t : Nat) : keepOf 29 t = (926589 / 2 ^ t % 2 == 1) := rfl
theorem keep30 (t : Nat) : keepOf 30 t = (285 / 2 ^ t % 2 == 1) := rfl
theorem keep31 (t : Nat) : keepOf 31 t = (8819 / 2 ^ t % 2 == 1) := rfl
theorem keep32 (t : Nat) : keepOf 32 t = (655475 / 2 ^ t % 2 == 1) := rfl
theorem keep33 (t : Nat) : keepOf 33 t = (31457523 / 2 ^ t % 2 == 1) := rfl
theorem keep34 (t : Nat) : keepOf 34 t = (295155 / 2 ^ t % 2 == 1) := rfl
theorem keep35 (t : Nat) : keepOf 35 t = (33571891 / 2 ^ t % 2 == 1) := rfl
theorem keep36 (t : Nat) : keepOf 36 t = (2163 / 2 ^ t % 2 == 1) := rfl
theorem keep37 (t : Nat) : keepOf 37 t = (2199560668147 / 2 ^ t % 2 == 1) := rfl
theorem keep38 (t : Nat) : keepOf 38 t = (35322884853747 / 2 ^ t % 2 == 1) := rfl
theorem keep39 (t : Nat) : keepOf 39 t = (8606729203 / 2 ^ t % 2 == 1) := rfl
theorem keep50 (t : Nat) : keepOf 50 t = (1821 / 2 ^ t % 2 == 1) := rfl
theorem keep54 (t : Nat) : keepOf 54 t = (4189 / 2 ^ t % 2 == 1) := rfl
theorem keep57 (t : Nat) : keepOf 57 t = (33781 / 2 ^ t % 2 == 1) := rfl
theorem keep58 (t : Nat) : keepOf 58 t = (563 / 2 ^ t % 2 == 1) := rfl
theorem keep59 (t : Nat) : keepOf 59 t = (68786853831 / 2 ^ t % 2 == 1) := rfl
theorem keep60 (t : Nat) : keepOf 60 t = (285 / 2 ^ t % 2 == 1) := rfl
theorem keep62 (t : Nat) : keepOf 62 t = (71 / 2 ^ t % 2 == 1) := rfl
theorem keep63 (t : Nat) : keepOf 63 t = (4505833010403315 / 2 ^ t % 2 == 1) := rfl
theorem keep64 (t : Nat) : keepOf 64 t = (1103119539 / 2 ^ t % 2 == 1) := rfl
theorem keep65 (t : Nat) : keepOf 65 t = (2111987 / 2 ^ t % 2 == 1) := rfl
theorem keep66 (t : Nat) : keepOf 66 t = (4303388787 / 2 ^ t % 2 == 1) := rfl
theorem keep67 (t : Nat) : keepOf 67 t = (131635 / 2 ^ t % 2 == 1) := rfl
theorem keep68 (t : Nat) : keepOf 68 t = (66483 / 2 ^ t % 2 == 1) := rfl
theorem keep69 (t : Nat) : keepOf 69 t = (17040883 / 2 ^ t % 2 == 1) := rfl
theorem keep81 (t : Nat) : keepOf 81 t = (131783 / 2 ^ t % 2 == 1) := rfl
theorem sz3 : szOf Try.prog 3 = some 1 := by kernel_rfl
theorem by3 : byOf Try.prog 3 = some 8 := by kernel_rfl
theorem row3 : isRowT Try.prog 3 = some false := by kernel_rfl
theorem zero3 : zeroOf Try.prog 3 = some (.int .i64 0) := by kernel_rfl
theorem sz4 : szOf Try.prog 4 = some 1 := by kernel_rfl
theorem by4 : byOf Try.prog 4 = some 1 := by kernel_rfl
theorem row4 : isRowT Try.prog 4 = some false := by kernel_rfl
theorem zero4 : zeroOf Try.prog 4 = some (.bool false) := by kernel_rfl
theorem sz5 : szOf Try.prog 5 = some 1 := by kernel_rfl
theorem by5 : byOf Try.prog 5 = some 1 := by kernel_rfl
theorem row5 : isRowT Try.prog 5 = some false := by kernel_rfl
theorem zero5 : zeroOf Try.prog 5 = some (.int .u8 0) := by kernel_rfl
theorem sz9 : szOf Try.prog 9 = some 1 := by kernel_rfl
theorem by9 : byOf Try.prog 9 = some 16 := by kernel_rfl
theorem row9 : isRowT Try.prog 9 = some false := by kernel_rfl
theorem shape9 : shapeOf Try.prog 9 = some .string := by kernel_rfl
theorem zero9 : zeroOf Try.prog 9 = some (.string ⟨#[]⟩) := by kernel_rfl
theorem sz21 : szOf Try.prog 21 = some 1 := by kernel_rfl
theorem by21 : byOf Try.prog 21 = some 4 := by kernel_rfl
theorem row21 : isRowT Try.prog 21 = some false := by kernel_rfl
theorem zero21 : zeroOf Try.prog 21 = some (.int .i32 0) := by kernel_rfl
theorem sz22 : szOf Try.prog 22 = some 1 := by kernel_rfl
theorem by22 : byOf Try.prog 22 = some 8 := by kernel_rfl
theorem row22 : isRowT Try.prog 22 = some false := by kernel_rfl
theorem zero22 : zeroOf Try.prog 22 = some (.nilFunc) := by kernel_rfl
theorem sz24 : szOf Try.prog 24 = some 1 := by kernel_rfl
theorem by24 : byOf Try.prog 24 = some 8 := by kernel_rfl
theorem row24 : isRowT Try.prog 24 = some false := by kernel_rfl
theorem zero24 : zeroOf Try.prog 24 = some (.int .i64 0) := by kernel_rfl
theorem sz29 : szOf Try.prog 29 = some 1 := by kernel_rfl
theorem by29 : byOf Try.prog 29 = some 24 := by kernel_rfl
theorem row29 : isRowT Try.prog 29 = some false := by kernel_rfl
theorem shape29 : shapeOf Try.prog 29 = some (.slice 3 1) := by kernel_rfl
theorem zero29 : zeroOf Try.prog 29 = some (.slice none 0 0) := by kernel_rfl
theorem sz36 : szOf Try.prog 36 = some 1 := by kernel_rfl
theorem by36 : byOf Try.prog 36 = some 24 := by kernel_rfl
theorem row36 : isRowT Try.prog 36 = some false := by kernel_rfl
theorem shape36 : shapeOf Try.prog 36 = some (.slice 9 1) := by kernel_rfl
theorem zero36 : zeroOf Try.prog 36 = some (.slice none 0 0) := by kernel_rfl
theorem sz52 : szOf Try.prog 52 = some 10 := by kernel_rfl
theorem by52 : byOf Try.prog 52 = some 10 := by kernel_rfl
theorem row52 : isRowT Try.prog 52 = some true := by kernel_rfl
theorem shape52 : shapeOf Try.prog 52 = some (.array 10 5 1) := by kernel_rfl
theorem zero52 : zeroOf Try.prog 52 = some (.agg #[.int .u8 0,.int .u8 0,.int .u8 0,.int .u8 0,.int .u8 0,.int .u8 0,.int .u8 0,.int .u8 0,.int .u8 0,.int .u8 0]) := by kernel_rfl
theorem parts52 : partsOf Try.prog 52 = some (.arr 1) := by kernel_rfl
theorem sz54 : szOf Try.prog 54 = some 11 := by kernel_rfl
theorem by54 : byOf Try.prog 54 = some 11 := by kernel_rfl
theorem row54 : isRowT Try.prog 54 = some true := by kernel_rfl
theorem zero54 : zeroOf Try.prog 54 = some (.agg #[.int .u8 0,.int .u8 0,.int .u8 0,.int .u8 0,.int .u8 0,.int .u8 0,.int .u8 0,.int .u8 0,.int .u8 0,.int .u8 0,.int .u8 0]) := by kernel_rfl
theorem parts54 : partsOf Try.prog 54 = some (.rows [(0,1),(1,10)]) := by kernel_rfl
theorem field54_0 : fieldOf Try.prog 54 0 = some (5,0,1) := by kernel_rfl
theorem field54_1 : fieldOf Try.prog 54 1 = some (52,1,10) := by kernel_rfl
theorem sz58 : szOf Try.prog 58 = some 1 := by kernel_rfl
theorem by58 : byOf Try.prog 58 = some 8 := by kernel_rfl
theorem row58 : isRowT Try.prog 58 = some false := by kernel_rfl
theorem zero58 : zeroOf Try.prog 58 = some (.map none) := by kernel_rfl
theorem mt58 : mapTy Try.prog 58 = some (9,3) := by kernel_rfl
theorem az3 : azero Try.prog 3 = some (.int .i64 0) := by kernel_rfl
theorem sz63 : szOf Try.prog 63 = some 1 := by kernel_rfl
theorem by63 : byOf Try.prog 63 = some 2 := by kernel_rfl
theorem row63 : isRowT Try.prog 63 = some false := by kernel_rfl
theorem zero63 : zeroOf Try.prog 63 = some (.int .u16 0) := by kernel_rfl
theorem sz66 : szOf Try.prog 66 = some 44 := by kernel_rfl
theorem by66 : byOf Try.prog 66 = some 44 := by kernel_rfl
theorem row66 : isRowT Try.prog 66 = some true := by kernel_rfl
theorem shape66 : shapeOf Try.prog 66 = some (.array 4 54 11) := by kernel_rfl
theorem zero66 : zeroOf Try.prog 66 = some (.agg #[.int .u8 0,.int .u8 0,.int .u8 0,.int .u8 0,.int .u8 0,.int .u8 0,.int .u8 0,.int .u8 0,.int .u8 0,.int .u8 0,.int .u8 0,.int .u8 0,.int .u8 0,.int .u8 0,.int .u8 0,.int .u8 0,.int .u8 0,.int .u8 0,.int .u8 0,.int .u8 0,.int .u8 0,.int .u8 0,.int .u8 0,.int .u8 0,.int .u8 0,.int .u8 0,.int .u8 0,.int .u8 0,.int .u8 0,.int .u8 0,.int .u8 0,.int .u8 0,.int .u8 0,.int .u8 0,.int .u8 0,.int .u8 0,.int .u8 0,.int .u8 0,.int .u8 0,.int .u8 0,.int .u8 0,.int .u8 0,.int .u8 0,.int .u8 0]) := by kernel_rfl
theorem parts66 : partsOf Try.prog 66 = some (.arr 11) := by kernel_rfl
theorem sz67 : szOf Try.prog 67 = some 1 := by kernel_rfl
theorem by67 : byOf Try.prog 67 = some 24 := by kernel_rfl
theorem row67 : isRowT Try.prog 67 = some false := by kernel_rfl
theorem shape67 : shapeOf Try.prog 67 = some (.slice 54 11) := by kernel_rfl
theorem zero67 : zeroOf Try.prog 67 = some (.slice none 0 0) := by kernel_rfl
theorem sz75 : szOf Try.prog 75 = some 1 := by kernel_rfl
theorem by75 : byOf Try.prog 75 = some 24 := by kernel_rfl
theorem row75 : isRowT Try.prog 75 = some false := by kernel_rfl
theorem shape75 : shapeOf Try.prog 75 = some (.slice 5 1) := by kernel_rfl
theorem zero75 : zeroOf Try.prog 75 = some (.slice none 0 0) := by kernel_rfl
theorem sz76 : szOf Try.prog 76 = some 1 := by kernel_rfl
theorem by76 : byOf Try.prog 76 = some 24 := by kernel_rfl
theorem row76 : isRowT Try.prog 76 = some false := by kernel_rfl
theorem shape76 : shapeOf Try.prog 76 = some (.slice 29 1) := by kernel_rfl
theorem zero76 : zeroOf Try.prog 76 = some (.slice none 0 0) := by kernel_rfl
theorem sz78 : szOf Try.prog 78 = some 1 := by kernel_rfl
theorem by78 : byOf Try.prog 78 = some 8 := by kernel_rfl
theorem row78 : isRowT Try.prog 78 = some false := by kernel_rfl
theorem zero78 : zeroOf Try.prog 78 = some (.map none) := by kernel_rfl
theorem mt78 : mapTy Try.prog 78 = some (21,3) := by kernel_rfl
theorem sz79 : szOf Try.prog 79 = some 1 := by kernel_rfl
theorem by79 : byOf Try.prog 79 = some 24 := by kernel_rfl
theorem row79 : isRowT Try.prog 79 = some false := by kernel_rfl
theorem shape79 : shapeOf Try.prog 79 = some (.slice 36 1) := by kernel_rfl
theorem zero79 : zeroOf Try.prog 79 = some (.slice none 0 0) := by kernel_rfl
theorem sz92 : szOf Try.prog 92 = some 1 := by kernel_rfl
theorem by92 : byOf Try.prog 92 = some 8 := by kernel_rfl
theorem row92 : isRowT Try.prog 92 = some false := by kernel_rfl
theorem zero92 : zeroOf Try.prog 92 = some (.pointer none) := by kernel_rfl
theorem sz94 : szOf Try.prog 94 = some 2 := by kernel_rfl
theorem by94 : byOf Try.prog 94 = some 32 := by kernel_rfl
theorem row94 : isRowT Try.prog 94 = some true := by kernel_rfl
theorem zero94 : zeroOf Try.prog 94 = some (.agg #[.pointer none,.slice none 0 0]) := by kernel_rfl
theorem parts94 : partsOf Try.prog 94 = some (.rows [(0,1),(1,1)]) := by kernel_rfl
theorem field94_0 : fieldOf Try.prog 94 0 = some (92,0,1) := by kernel_rfl
theorem field94_1 : fieldOf Try.prog 94 1 = some (75,1,1) := by kernel_rfl
theorem sz99 : szOf Try.prog 99 = some 1 := by kernel_rfl
theorem by99 : byOf Try.prog 99 = some 24 := by kernel_rfl
theorem row99 : isRowT Try.prog 99 = some false := by kernel_rfl
theorem shape99 : shapeOf Try.prog 99 = some (.slice 58 1) := by kernel_rfl
theorem zero99 : zeroOf Try.prog 99 = some (.slice none 0 0) := by kernel_rfl
theorem sz102 : szOf Try.prog 102 = some 1 := by kernel_rfl
theorem by102 : byOf Try.prog 102 = some 8 := by kernel_rfl
theorem row102 : isRowT Try.prog 102 = some false := by kernel_rfl
theorem zero102 : zeroOf Try.prog 102 = some (.map none) := by kernel_rfl
theorem mt102 : mapTy Try.prog 102 = some (9,4) := by kernel_rfl
theorem az4 : azero Try.prog 4 = some (.bool false) := by kernel_rfl
theorem sz103 : szOf Try.prog 103 = some 1 := by kernel_rfl
theorem by103 : byOf Try.prog 103 = some 8 := by kernel_rfl
theorem row103 : isRowT Try.prog 103 = some false := by kernel_rfl
theorem zero103 : zeroOf Try.prog 103 = some (.map none) := by kernel_rfl
theorem mt103 : mapTy Try.prog 103 = some (21,4) := by kernel_rfl
theorem sz106 : szOf Try.prog 106 = some 2 := by kernel_rfl
theorem by106 : byOf Try.prog 106 = some 16 := by kernel_rfl
theorem row106 : isRowT Try.prog 106 = some true := by kernel_rfl
theorem zero106 : zeroOf Try.prog 106 = some (.agg #[.int .i64 0,.int .i64 0]) := by kernel_rfl
theorem parts106 : partsOf Try.prog 106 = some (.rows [(0,1),(1,1)]) := by kernel_rfl
theorem field106_0 : fieldOf Try.prog 106 0 = some (3,0,1) := by kernel_rfl
theorem field106_1 : fieldOf Try.prog 106 1 = some (3,1,1) := by kernel_rfl
theorem sz108 : szOf Try.prog 108 = some 3 := by kernel_rfl
theorem by108 : byOf Try.prog 108 = some 32 := by kernel_rfl
theorem row108 : isRowT Try.prog 108 = some true := by kernel_rfl
theorem zero108 : zeroOf Try.prog 108 = some (.agg #[.int .i64 0,.int .i64 0,.string ⟨#[]⟩]) := by kernel_rfl
theorem parts108 : partsOf Try.prog 108 = some (.rows [(0,2),(2,1)]) := by kernel_rfl
theorem field108_0 : fieldOf Try.prog 108 0 = some (106,0,2) := by kernel_rfl
theorem field108_1 : fieldOf Try.prog 108 1 = some (9,2,1) := by kernel_rfl
theorem sz109 : szOf Try.prog 109 = some 1 := by kernel_rfl
theorem by109 : byOf Try.prog 109 = some 24 := by kernel_rfl
theorem row109 : isRowT Try.prog 109 = some false := by kernel_rfl
theorem shape109 : shapeOf Try.prog 109 = some (.slice 108 3) := by kernel_rfl
theorem zero109 : zeroOf Try.prog 109 = some (.slice none 0 0) := by kernel_rfl
theorem sz110 : szOf Try.prog 110 = some 1 := by kernel_rfl
theorem by110 : byOf Try.prog 110 = some 8 := by kernel_rfl
theorem row110 : isRowT Try.prog 110 = some false := by kernel_rfl
theorem zero110 : zeroOf Try.prog 110 = some (.map none) := by kernel_rfl
theorem mt110 : mapTy Try.prog 110 = some (106,4) := by kernel_rfl
theorem sz112 : szOf Try.prog 112 = some 1 := by kernel_rfl
theorem by112 : byOf Try.prog 112 = some 8 := by kernel_rfl
theorem row112 : isRowT Try.prog 112 = some false := by kernel_rfl
theorem zero112 : zeroOf Try.prog 112 = some (.pointer none) := by kernel_rfl
theorem sz115 : szOf Try.prog 115 = some 1 := by kernel_rfl
theorem by115 : byOf Try.prog 115 = some 8 := by kernel_rfl
theorem row115 : isRowT Try.prog 115 = some false := by kernel_rfl
theorem zero115 : zeroOf Try.prog 115 = some (.int .u64 0) := by kernel_rfl
theorem sz116 : szOf Try.prog 116 = some 1 := by kernel_rfl
theorem by116 : byOf Try.prog 116 = some 8 := by kernel_rfl
theorem row116 : isRowT Try.prog 116 = some false := by kernel_rfl
theorem zero116 : zeroOf Try.prog 116 = some (.pointer none) := by kernel_rfl
theorem sz119 : szOf Try.prog 119 = some 1 := by kernel_rfl
theorem by119 : byOf Try.prog 119 = some 8 := by kernel_rfl
theorem row119 : isRowT Try.prog 119 = some false := by kernel_rfl
theorem zero119 : zeroOf Try.prog 119 = some (.int .i64 0) := by kernel_rfl
theorem sz127 : szOf Try.prog 127 = some 1 := by kernel_rfl
theorem by127 : byOf Try.prog 127 = some 4 := by kernel_rfl
theorem row127 : isRowT Try.prog 127 = some false := by kernel_rfl
theorem zero127 : zeroOf Try.prog 127 = some (.int .u32 0) := by kernel_rfl
theorem sz129 : szOf Try.prog 129 = some 1 := by kernel_rfl
theorem by129 : byOf Try.prog 129 = some 8 := by kernel_rfl
theorem row129 : isRowT Try.prog 129 = some false := by kernel_rfl
theorem zero129 : zeroOf Try.prog 129 = some (.int .u64 0) := by kernel_rfl
theorem sz130 : szOf Try.prog 130 = some 1 := by kernel_rfl
theorem by130 : byOf Try.prog 130 = some 8 := by kernel_rfl
theorem row130 : isRowT Try.prog 130 = some false := by kernel_rfl
theorem zero130 : zeroOf Try.prog 130 = some (.int .u64 0) := by kernel_rfl
theorem sz134 : szOf Try.prog 134 = some 1 := by kernel_rfl
theorem by134 : byOf Try.prog 134 = some 8 := by kernel_rfl
theorem row134 : isRowT Try.prog 134 = some false := by kernel_rfl
theorem zero134 : zeroOf Try.prog 134 = some (.pointer none) := by kernel_rfl
theorem body25 : bodyOf Try.prog 25 = some (Try.f25,(Try.f25.body).get rfl) := by
 unfold bodyOf
 rw [Try.func25]
 rfl
theorem body27 : bodyOf Try.prog 27 = some (Try.f27,(Try.f27.body).get rfl) := by
 unfold bodyOf
 rw [Try.func27]
 rfl
theorem body50 : bodyOf Try.prog 50 = some (Try.f50,(Try.f50.body).get rfl) := by
 unfold bodyOf
 rw [Try.func50]
 rfl
theorem body68 : bodyOf Try.prog 68 = some (Try.f68,(Try.f68.body).get rfl) := by
 unfold bodyOf
 rw [Try.func68]
 rfl
theorem body81 : bodyOf Try.prog 81 = some (Try.f81,(Try.f81.body).get rfl) := by
 unfold bodyOf
 rw [Try.func81]
 rfl
theorem progFine : progOK Try.prog = true := by kernel_rfl
end Go.Proofs.Ytmnmfmghmenkkaa
set_option linter.unusedSimpArgs false
set_option linter.unusedVariables false
set_option linter.unusedSectionVars false
namespace Go.Pur
open Go.Abs
def ak : Bool → Vl
 | true => .bor
 | false => .fz
section
variable {p : Pl} {b : Bool} {c : Ck} {n : Nat} {cs : List PV}
theorem rdv_ak : rdv p (.l (ak b) c n cs) = some (.l (ak b) c n cs) := by cases b <;> rfl
theorem notOwn_ak : notOwn (ak b) = true := by cases b <;> rfl
theorem prt_ak : prt (ak b) = ak b := by cases b <;> rfl
theorem loose_ak : loose (.l (ak b) c n cs) = false := by cases b <;> rfl
theorem rdv_own : rdv p (.l .own c n cs) = some (.l (.rf p) c n cs) := rfl
theorem rdv_fz : rdv p (.l .fz c n cs) = some (.l .fz c n cs) := rfl
theorem rdv_bor : rdv p (.l .bor c n cs) = some (.l .bor c n cs) := rfl
theorem rdv_rf {q : Pl} : rdv p (.l (.rf q) c n cs) = some (.l (.rf q) c n cs) := rfl
theorem rdv_pt {q : Pl} : rdv p (.l (.pt q) c n cs) = some (.l (.pt q) c n cs) := rfl
theorem rdv_v {x : Value} : rdv p (.v x) = some (.v x) := rfl
theorem rdv_a : rdv p (.a cs) = some (.a cs) := rfl
theorem rdv_t : rdv p (.t cs) = some (.t cs) := rfl
theorem rdv_r {k : Vl} : rdv p (.r k cs) = some (.r k cs) := rfl
theorem rdv_p {i o : Nat} : rdv p (.p i o) = some (.p i o) := rfl
theorem rdv_s {i o m d : Nat} : rdv p (.s i o m d) = some (.s i o m d) := rfl
theorem rdv_f {g : FuncId} {as0 bs : List PV} : rdv p (.f g as0 bs) = some (.f g as0 bs) := rfl
end
theorem get_nil {α : Type} {k : Nat} : (Tr.nil : Tr α).get k = none := rfl
theorem pvOf_int {k : IntKind} {n : Int} : pvOf (.int k n) = some (.v (.int k n)) := rfl
theorem pvOf_bool {b : Bool} : pvOf (.bool b) = some (.v (.bool b)) := rfl
theorem pvOf_str {s : ByteArray} : pvOf (.string s) = some (.v (.string s)) := rfl
theorem pvOf_nil : pvOf (.slice none 0 0) = some (.l .own .nz 0 []) := rfl
abbrev iv (n : Int) : PV := .v (.int .i64 n)
theorem blt_true {a b : Nat} (h : a < b) : Nat.blt a b = true := Nat.ble_eq_true_of_le h
theorem ble_true {a b : Nat} (h : a ≤ b) : Nat.ble a b = true := Nat.ble_eq_true_of_le h
theorem wrap64 {z : Int} (h1 : -9223372036854775808 ≤ z) (h2 : z < 9223372036854775808) : IntKind.i64.wrap z = z := by
 have e : IntKind.i64.wrap z = if z % 18446744073709551616 ≥ 9223372036854775808 then z % 18446744073709551616 - 18446744073709551616 else z % 18446744073709551616 := by
  unfold IntKind.wrap
  by_cases h : z % 18446744073709551616 ≥ 9223372036854775808
  ·rw [if_pos h]
   simp [IntKind.bits,IntKind.signed]
   omega
  ·rw [if_neg h]
   simp [IntKind.bits,IntKind.signed]
   omega
 rw [e]
 split <;> omega
theorem wrap_nat {n : Nat} (h : n < 1000000000000) : IntKind.i64.wrap ((n : Int) + 1) = ((n + 1 : Nat) : Int) := by
 rw [wrap64 (by omega) (by omega)]; omega
theorem intIn_nat {n i : Nat} {k : IntKind} (h : i < n) : intIn n (.int k (i : Int)) = some i := by
 show (match Nat.blt i n with | true => some i | false => none) = some i
 rw [blt_true h]
theorem goInt_eq {n : Int} : goInt n = .int .i64 n := rfl
section
variable {sz : TypeId → Option Nat} {base t : Nat} {hp : List (Option (List PV))}
theorem settle_v {x : Value} : settle sz base hp t (.v x) = some (.v x) := rfl
theorem settle_l {k : Vl} {c : Ck} {n : Nat} {cs : List PV} : settle sz base hp t (.l k c n cs) = some (.l k c n cs) := rfl
theorem settle_a {cs : List PV} : settle sz base hp t (.a cs) = some (.a cs) := rfl
theorem settle_p {b o : Nat} : settle sz base hp t (.p b o) = some (.p b o) := rfl
theorem settle_f {g : FuncId} {as0 bs : List PV} : settle sz base hp t (.f g as0 bs) = some (.f g as0 bs) := rfl
theorem noref_v {x : Value} : noref (.v x) = true := by simp [noref]
theorem noref_fz {c : Ck} {n : Nat} {cs : List PV} : noref (.l .fz c n cs) = true := by simp [noref]
theorem noref_a {cs : List PV} : noref (.a cs) = noref.norefs cs := by simp [noref]
theorem norefs_nil : noref.norefs [] = true := by simp [noref.norefs]
theorem norefs_cons {c : PV} {cs : List PV} : noref.norefs (c :: cs) = (noref c && noref.norefs cs) := by simp [noref.norefs]
end
section
variable {P : Program} {Y : Pol} {f : FuncId} {nt : Nat} {k : List Fm}
def presL (P : Program) (Y : Pol) (f : FuncId) (base : Nat) (rs : List ResultVar) (ts : List TypeId) (σ : St) : Option (PV × St × Bool) :=
 match rs,ts with
 | [r],[t] => match presOne P Y f σ r with
  | some (v,σ1) => match moved Y f v σ1 with
   | some (v',σ2) => match okDrop base v' with
    | true => match settle (elemSz P) base σ2.hp t v' with
     | some u => some (u,σ2,true)
     | none => none
    | false => some (v',σ2,false)
   | none => none
  | none => none
 | rs,ts => match Nat.beq rs.length 1 with
  | true => none
  | false => match presM P Y f rs σ with
   | some (vs,σ1) => match vs.all (okDrop base) with
    | true => match settles P base σ1.hp ts vs with
     | some us => some (.t us,σ1,true)
     | none => none
    | false => some (.t vs,σ1,false)
   | none => none
def ER (P : Program) (Y : Pol) (g : FuncId) (rs : List ResultVar) (ts : List TypeId) (base : Nat) (r : Option (AExit × St)) : Option (PV × List (Option (List PV)) × Option Nat) :=
 match r with
 | some (.normal,σ) | some (.ret,σ) => match presL P Y g base rs ts σ with
  | some (v,σ',drop) => some (pclose base drop v σ')
  | none => none
 | _ => none
theorem pres_eq {g : FuncId} {fn : Func} {base : Nat} {σ : St} : pres P Y g base fn σ = presL P Y g base fn.results.toList fn.resultTypes.toList σ := rfl
theorem E_bodyR {g : FuncId} {fn : Func} {c : Code} {a : List PV} {hp : List (Option (List PV))} (hb : bodyOf P g = some (fn,c)) (hk : (Nat.ble a.length fn.ntmps && keepsTo Y g a.length) = true) (hy : Y.yes g = false := by rfl) :
  E P Y g a hp = ER P Y g fn.results.toList fn.resultTypes.toList hp.length (EK P Y g fn.ntmps [.c c] ⟨[],pinit 0 a .nil,hp,none⟩) := by
 rw [E_body hb hk hy]
 unfold EF ER
 simp only [pres_eq]
 cases EK P Y g fn.ntmps [.c c] ⟨[],pinit 0 a .nil,hp,none⟩ with
 | none => rfl
 | some r =>
  obtain ⟨x,σ⟩ := r
  cases x with
  | normal => simp only []; cases presL P Y g hp.length fn.results.toList fn.resultTypes.toList σ <;> rfl
  | ret => simp only []; cases presL P Y g hp.length fn.results.toList fn.resultTypes.toList σ <;> rfl
  | _ => rfl
theorem E_bodyN {g : FuncId} {fn : Func} {c : Code} {a : List PV} {hp : List (Option (List PV))} (n : Nat) (hb : bodyOf P g = some (fn,c)) (h1 : Nat.ble n fn.ntmps = true) (h2 : keepsTo Y g n = true) (hn : a.length = n) (hy : Y.yes g = false := by rfl) :
  E P Y g a hp = ER P Y g fn.results.toList fn.resultTypes.toList hp.length (EK P Y g fn.ntmps [.c c] ⟨[],pinit 0 a .nil,hp,none⟩) := by
 refine E_bodyR hb ?_ hy
 rw [hn,h1,h2]
 rfl
theorem E_known {g : FuncId} {a : List PV} {hp : List (Option (List PV))} {r : PV × List (Option (List PV)) × Option Nat} (hy : Y.yes g = true) (hv : Y.ext g a hp = some r) : E P Y g a hp = some r := by
 rw [E_eq]
 unfold pcall
 rw [hy]
 simp only [hv]
theorem ER_ret {g : FuncId} {rs : List ResultVar} {tys : List TypeId} {base : Nat} {σ : St} : ER P Y g rs tys base (some (.ret,σ)) = match presL P Y g base rs tys σ with
  | some (v,σ',drop) => some (pclose base drop v σ')
  | none => none := rfl
theorem ER_normal {g : FuncId} {rs : List ResultVar} {tys : List TypeId} {base : Nat} {σ : St} : ER P Y g rs tys base (some (.normal,σ)) = match presL P Y g base rs tys σ with
  | some (v,σ',drop) => some (pclose base drop v σ')
  | none => none := rfl
theorem loop_ind {R : Option (PV × List (Option (List PV)) × Option Nat)} {g : FuncId} {rs : List ResultVar} {tys : List TypeId} {base : Nat} {b : Code} {σ0 : St} (Inv : Nat → St → Prop) {n0 : Nat} (h0 : Inv n0 σ0)
  (hs : ∀ n σ,Inv n σ → (∀ m σ',m < n → Inv m σ' → ER P Y g rs tys base (EK P Y f nt (.lp b :: k) σ') = R) → ER P Y g rs tys base (EK P Y f nt (.c b :: .lp b :: k) σ) = R) :
  ER P Y g rs tys base (EK P Y f nt (.lp b :: k) σ0) = R := by
 induction n0 using Nat.strongRecOn generalizing σ0 with
 | ind n ih =>
  rw [EK_lp]
  exact hs n σ0 h0 fun m σ' hm hi => ih m hm hi
end
section
variable {k : IntKind} {a b : Int}
theorem intBin_add : intBin .add k a b = some (.int k (k.wrap (a + b))) := rfl
theorem intBin_sub : intBin .sub k a b = some (.int k (k.wrap (a - b))) := rfl
theorem intBin_eql : intBin .eql k a b = some (.bool (decide (a = b))) := by simp [intBin]; rfl
theorem intBin_neq : intBin .neq k a b = some (.bool (!decide (a = b))) := by simp [intBin,bne]; rfl
theorem intBin_lss : intBin .lss k a b = some (.bool (decide (a < b))) := rfl
theorem intBin_leq : intBin .leq k a b = some (.bool (decide (a ≤ b))) := rfl
theorem intBin_gtr : intBin .gtr k a b = some (.bool (decide (b < a))) := rfl
theorem intBin_geq : intBin .geq k a b = some (.bool (decide (b ≤ a))) := rfl
end
theorem ble_lim24 {n : Nat} : Nat.ble n limit24 = decide (n ≤ 16777216) := by
 rw [Bool.eq_iff_iff]
 simp [limit24]
theorem nble {n m : Nat} : Nat.ble n m = decide (n ≤ m) := by
 rw [Bool.eq_iff_iff]
 simp
theorem nbeq {n m : Nat} : Nat.beq n m = decide (n = m) := by
 rw [Bool.eq_iff_iff]
 simp
section
variable {p : Pl}
theorem killV_v {x : Value} : killV p (.v x) = (.v x) := rfl
theorem killV_a {cs : List PV} : killV p (.a cs) = (.a cs) := rfl
theorem killV_t {cs : List PV} : killV p (.t cs) = (.t cs) := rfl
theorem killV_f {g : FuncId} {as0 bs : List PV} : killV p (.f g as0 bs) = (.f g as0 bs) := rfl
theorem killV_i {ty : TypeId} {x : PV} : killV p (.i ty x) = (.i ty x) := rfl
theorem killV_p {b o : Nat} : killV p (.p b o) = (.p b o) := rfl
theorem killV_s {b o n m : Nat} : killV p (.s b o n m) = (.s b o n m) := rfl
theorem killV_un  : killV p .un = .un := rfl
theorem killV_dead  : killV p .dead = .dead := rfl
theorem killV_lfz {c : Ck} {n : Nat} {cs : List PV} : killV p (.l .fz c n cs) = (.l .fz c n cs) := rfl
theorem killV_lbor {c : Ck} {n : Nat} {cs : List PV} : killV p (.l .bor c n cs) = (.l .bor c n cs) := rfl
theorem killV_lown {c : Ck} {n : Nat} {cs : List PV} : killV p (.l .own c n cs) = (.l .own c n cs) := rfl
theorem killV_rfz {cs : List PV} : killV p (.r .fz cs) = (.r .fz cs) := rfl
theorem killV_rbor {cs : List PV} : killV p (.r .bor cs) = (.r .bor cs) := rfl
theorem killV_lak {b : Bool} {c : Ck} {n : Nat} {cs : List PV} : killV p (.l (ak b) c n cs) = .l (ak b) c n cs := by cases b <;> rfl
theorem killV_rak {b : Bool} {cs : List PV} : killV p (.r (ak b) cs) = .r (ak b) cs := by cases b <;> rfl
theorem frzV_v {x : Value} : frzV p (.v x) = (.v x) := rfl
theorem frzV_a {cs : List PV} : frzV p (.a cs) = (.a cs) := rfl
theorem frzV_t {cs : List PV} : frzV p (.t cs) = (.t cs) := rfl
theorem frzV_f {g : FuncId} {as0 bs : List PV} : frzV p (.f g as0 bs) = (.f g as0 bs) := rfl
theorem frzV_i {ty : TypeId} {x : PV} : frzV p (.i ty x) = (.i ty x) := rfl
theorem frzV_p {b o : Nat} : frzV p (.p b o) = (.p b o) := rfl
theorem frzV_s {b o n m : Nat} : frzV p (.s b o n m) = (.s b o n m) := rfl
theorem frzV_un  : frzV p .un = .un := rfl
theorem frzV_dead  : frzV p .dead = .dead := rfl
theorem frzV_lfz {c : Ck} {n : Nat} {cs : List PV} : frzV p (.l .fz c n cs) = (.l .fz c n cs) := rfl
theorem frzV_lbor {c : Ck} {n : Nat} {cs : List PV} : frzV p (.l .bor c n cs) = (.l .bor c n cs) := rfl
theorem frzV_lown {c : Ck} {n : Nat} {cs : List PV} : frzV p (.l .own c n cs) = (.l .own c n cs) := rfl
theorem frzV_rfz {cs : List PV} : frzV p (.r .fz cs) = (.r .fz cs) := rfl
theorem frzV_rbor {cs : List PV} : frzV p (.r .bor cs) = (.r .bor cs) := rfl
theorem frzV_lak {b : Bool} {c : Ck} {n : Nat} {cs : List PV} : frzV p (.l (ak b) c n cs) = .l (ak b) c n cs := by cases b <;> rfl
theorem frzV_rak {b : Bool} {cs : List PV} : frzV p (.r (ak b) cs) = .r (ak b) cs := by cases b <;> rfl
theorem killCell_v {x : Value} : killCell (.v x) = (.v x) := rfl
theorem killCell_a {cs : List PV} : killCell (.a cs) = (.a cs) := rfl
theorem killCell_t {cs : List PV} : killCell (.t cs) = (.t cs) := rfl
theorem killCell_f {g : FuncId} {as0 bs : List PV} : killCell (.f g as0 bs) = (.f g as0 bs) := rfl
theorem killCell_i {ty : TypeId} {x : PV} : killCell (.i ty x) = (.i ty x) := rfl
theorem killCell_p {b o : Nat} : killCell (.p b o) = (.p b o) := rfl
theorem killCell_s {b o n m : Nat} : killCell (.s b o n m) = (.s b o n m) := rfl
theorem killCell_un  : killCell .un = .un := rfl
theorem killCell_dead  : killCell .dead = .dead := rfl
theorem killCell_lfz {c : Ck} {n : Nat} {cs : List PV} : killCell (.l .fz c n cs) = (.l .fz c n cs) := rfl
theorem killCell_lbor {c : Ck} {n : Nat} {cs : List PV} : killCell (.l .bor c n cs) = (.l .bor c n cs) := rfl
theorem killCell_lown {c : Ck} {n : Nat} {cs : List PV} : killCell (.l .own c n cs) = (.l .own c n cs) := rfl
theorem killCell_rfz {cs : List PV} : killCell (.r .fz cs) = (.r .fz cs) := rfl
theorem killCell_rbor {cs : List PV} : killCell (.r .bor cs) = (.r .bor cs) := rfl
theorem killCell_lak {b : Bool} {c : Ck} {n : Nat} {cs : List PV} : killCell (.l (ak b) c n cs) = .l (ak b) c n cs := by cases b <;> rfl
theorem killCell_rak {b : Bool} {cs : List PV} : killCell (.r (ak b) cs) = .r (ak b) cs := by cases b <;> rfl
theorem killV_lrf {q : Pl} {c : Ck} {n : Nat} {cs : List PV} : killV p (.l (.rf q) c n cs) = match plEq q p with
  | true => .dead
  | false => .l (.rf q) c n cs := rfl
theorem killV_lpt {q : Pl} {c : Ck} {n : Nat} {cs : List PV} : killV p (.l (.pt q) c n cs) = match plEq q p with
  | true => .dead
  | false => .l (.pt q) c n cs := rfl
theorem killV_rpt {q : Pl} {cs : List PV} : killV p (.r (.pt q) cs) = match plEq q p with
  | true => .dead
  | false => .r (.pt q) cs := rfl
theorem frzV_lrf {q : Pl} {c : Ck} {n : Nat} {cs : List PV} : frzV p (.l (.rf q) c n cs) = match plEq q p with
  | true => .l .fz c n cs
  | false => .l (.rf q) c n cs := rfl
theorem frzV_lpt {q : Pl} {c : Ck} {n : Nat} {cs : List PV} : frzV p (.l (.pt q) c n cs) = match plEq q p with
  | true => .l .fz c n cs
  | false => .l (.pt q) c n cs := rfl
theorem frzV_rpt {q : Pl} {cs : List PV} : frzV p (.r (.pt q) cs) = match plEq q p with
  | true => .r .fz cs
  | false => .r (.pt q) cs := rfl
theorem killCell_lrft {t : Nat} {c : Ck} {n : Nat} {cs : List PV} : killCell (.l (.rf (.tmp t)) c n cs) = .l (.rf (.tmp t)) c n cs := rfl
theorem killCell_lptt {t : Nat} {c : Ck} {n : Nat} {cs : List PV} : killCell (.l (.pt (.tmp t)) c n cs) = .l (.pt (.tmp t)) c n cs := rfl
theorem killCell_rptt {t : Nat} {cs : List PV} : killCell (.r (.pt (.tmp t)) cs) = .r (.pt (.tmp t)) cs := rfl
theorem killCell_lrfc {a i : Nat} {c : Ck} {n : Nat} {cs : List PV} : killCell (.l (.rf (.cell a i)) c n cs) = .dead := rfl
theorem killCell_lptc {a i : Nat} {c : Ck} {n : Nat} {cs : List PV} : killCell (.l (.pt (.cell a i)) c n cs) = .dead := rfl
theorem killCell_rptc {a i : Nat} {cs : List PV} : killCell (.r (.pt (.cell a i)) cs) = .dead := rfl
theorem argv_lak {Y : Pol} {f : FuncId} {b : Bool} {c : Ck} {n : Nat} {cs : List PV} {σ : St} : argv Y f (.l (ak b) c n cs) σ = some (.l (ak b) c n cs,σ,none) := by cases b <;> rfl
theorem argv_rak {Y : Pol} {f : FuncId} {b : Bool} {cs : List PV} {σ : St} : argv Y f (.r (ak b) cs) σ = some (.r (ak b) cs,σ,none) := by cases b <;> rfl
theorem argv_v {Y : Pol} {f : FuncId} {x : Value} {σ : St} : argv Y f (.v x) σ = some (.v x,σ,none) := rfl
theorem argv_a {Y : Pol} {f : FuncId} {cs : List PV} {σ : St} : argv Y f (.a cs) σ = some (.a cs,σ,none) := rfl
theorem argv_p {Y : Pol} {f : FuncId} {b o : Nat} {σ : St} : argv Y f (.p b o) σ = some (.p b o,σ,none) := rfl
theorem argv_f {Y : Pol} {f : FuncId} {g : FuncId} {as0 bs : List PV} {σ : St} : argv Y f (.f g as0 bs) σ = some (.f g as0 bs,σ,none) := rfl
theorem argv_fz {Y : Pol} {f : FuncId} {c : Ck} {n : Nat} {cs : List PV} {σ : St} : argv Y f (.l .fz c n cs) σ = some (.l .fz c n cs,σ,none) := rfl
theorem argv_bor {Y : Pol} {f : FuncId} {c : Ck} {n : Nat} {cs : List PV} {σ : St} : argv Y f (.l .bor c n cs) σ = some (.l .bor c n cs,σ,none) := rfl
theorem argv_rf {Y : Pol} {f : FuncId} {t : Nat} {c : Ck} {n : Nat} {cs : List PV} {σ : St} : argv Y f (.l (.rf (.tmp t)) c n cs) σ = match Y.keep f t with
  | true => some (.l .bor c n cs,σ,none)
  | false => stor Y f (.l (.rf (.tmp t)) c n cs) σ := rfl
theorem argv_pt {Y : Pol} {f : FuncId} {t : Nat} {c : Ck} {n : Nat} {cs : List PV} {σ : St} : argv Y f (.l (.pt (.tmp t)) c n cs) σ = some (.l .bor c n cs,σ,none) := rfl
theorem argv_rc {Y : Pol} {f : FuncId} {a i : Nat} {c : Ck} {n : Nat} {cs : List PV} {σ : St} : argv Y f (.l (.rf (.cell a i)) c n cs) σ = stor Y f (.l (.rf (.cell a i)) c n cs) σ := rfl
theorem argv_own {Y : Pol} {f : FuncId} {c : Ck} {n : Nat} {cs : List PV} {σ : St} : argv Y f (.l .own c n cs) σ = stor Y f (.l .own c n cs) σ := rfl
theorem mayTurn_none : mayTurn none = true := rfl
end
section
variable {p : Pl} {es : List MapEntry} {c d : Nat} {ls : List (Nat × PV)}
theorem rdv_mown : rdv p (.m .own es c) = some (.m (.rf p) es c) := rfl
theorem rdv_mfz : rdv p (.m .fz es c) = some (.m .fz es c) := rfl
theorem rdv_mbor : rdv p (.m .bor es c) = some (.m .bor es c) := rfl
theorem rdv_mrf {q : Pl} : rdv p (.m (.rf q) es c) = some (.m (.rf q) es c) := rfl
theorem killV_mown : killV p (.m .own es c) = .m .own es c := rfl
theorem killV_mfz : killV p (.m .fz es c) = .m .fz es c := rfl
theorem killV_mbor : killV p (.m .bor es c) = .m .bor es c := rfl
theorem killV_mrf {q : Pl} : killV p (.m (.rf q) es c) = match plEq q p with
  | true => .dead
  | false => .m (.rf q) es c := rfl
theorem frzV_mown : frzV p (.m .own es c) = .m .own es c := rfl
theorem frzV_mfz : frzV p (.m .fz es c) = .m .fz es c := rfl
theorem frzV_mbor : frzV p (.m .bor es c) = .m .bor es c := rfl
theorem frzV_mrf {q : Pl} : frzV p (.m (.rf q) es c) = match plEq q p with
  | true => .m .fz es c
  | false => .m (.rf q) es c := rfl
theorem killCell_mown : killCell (.m .own es c) = .m .own es c := rfl
theorem killCell_mfz : killCell (.m .fz es c) = .m .fz es c := rfl
theorem killCell_mbor : killCell (.m .bor es c) = .m .bor es c := rfl
theorem killCell_mrf {t : Nat} : killCell (.m (.rf (.tmp t)) es c) = .m (.rf (.tmp t)) es c := rfl
theorem argv_mfz {Y : Pol} {f : FuncId} {σ : St} : argv Y f (.m .fz es c) σ = some (.m .fz es c,σ,none) := rfl
theorem argv_mbor {Y : Pol} {f : FuncId} {σ : St} : argv Y f (.m .bor es c) σ = some (.m .bor es c,σ,none) := rfl
theorem argv_mrf {Y : Pol} {f : FuncId} {t : Nat} {σ : St} : argv Y f (.m (.rf (.tmp t)) es c) σ = match Y.keep f t with
  | true => some (.m .bor es c,σ,none)
  | false => stor Y f (.m (.rf (.tmp t)) es c) σ := rfl
theorem settle_m {sz : TypeId → Option Nat} {base t : Nat} {hp : List (Option (List PV))} {k : Vl} : settle sz base hp t (.m k es c) = some (.m k es c) := rfl
theorem kls_v {x : Value} : kls d (.v x) ls = ls := rfl
theorem kls_l {k : Vl} {c : Ck} {n : Nat} {cs : List PV} : kls d (.l k c n cs) ls = ls := rfl
theorem kls_a {cs : List PV} : kls d (.a cs) ls = ls := rfl
theorem kls_t {cs : List PV} : kls d (.t cs) ls = ls := rfl
theorem kls_r {k : Vl} {cs : List PV} : kls d (.r k cs) ls = ls := rfl
theorem kls_p {b o : Nat} : kls d (.p b o) ls = ls := rfl
theorem kls_s {b o n m : Nat} : kls d (.s b o n m) ls = ls := rfl
theorem kls_f {g : FuncId} {as0 bs : List PV} : kls d (.f g as0 bs) ls = ls := rfl
theorem kls_i {ty : TypeId} {x : PV} : kls d (.i ty x) ls = ls := rfl
theorem kls_it {s : ByteArray} {pos : Nat} : kls d (.it s pos) ls = ls := rfl
theorem kls_un : kls d .un ls = ls := rfl
theorem kls_dead : kls d .dead ls = ls := rfl
theorem kls_mown : kls d (.m .own es c) ls = mapL (killV (.tmp d)) ls := rfl
theorem kls_mrf {q : Pl} : kls d (.m (.rf q) es c) ls = ls := rfl
theorem kls_mbor : kls d (.m .bor es c) ls = ls := rfl
theorem kls_mfz : kls d (.m .fz es c) ls = ls := rfl
end
section
variable {b : Nat}
theorem refsTo_v {x : Value} : refsTo b (.v x) = true := by simp [refsTo]
theorem refsTo_l {k : Vl} {c : Ck} {n : Nat} {cs : List PV} : refsTo b (.l k c n cs) = true := by simp [refsTo]
theorem refsTo_p {d o : Nat} : refsTo b (.p d o) = Nat.ble d b := by simp [refsTo]
theorem refsTo_s {d o n m : Nat} : refsTo b (.s d o n m) = Nat.ble d b := by simp [refsTo]
theorem refsTo_a {cs : List PV} : refsTo b (.a cs) = refsTo.go b cs := by simp [refsTo]
theorem refsTo_dead : refsTo b .dead = true := by simp [refsTo]
theorem refsTo_nil : refsTo.go b [] = true := by simp [refsTo.go]
theorem refsTo_cons {c : PV} {cs : List PV} : refsTo.go b (c :: cs) = (refsTo b c && refsTo.go b cs) := by simp [refsTo.go]
theorem isOwn_lak {b : Bool} {c : Ck} {n : Nat} {cs : List PV} : isOwn (.l (ak b) c n cs) = false := by cases b <;> rfl
theorem ownFz_lak {b : Bool} {c : Ck} {n : Nat} {cs : List PV} : ownFz (.l (ak b) c n cs) = .l (ak b) c n cs := by cases b <;> rfl
end
theorem notOwn_fz : notOwn .fz = true := rfl
theorem notOwn_bor : notOwn .bor = true := rfl
theorem notOwn_own : notOwn .own = false := rfl
theorem notOwn_rf {p : Pl} : notOwn (.rf p) = true := rfl
theorem notOwn_pt {p : Pl} : notOwn (.pt p) = true := rfl
theorem prt_fz : prt .fz = .fz := rfl
theorem prt_bor : prt .bor = .bor := rfl
theorem prt_own : prt .own = .own := rfl
theorem prt_rf {p : Pl} : prt (.rf p) = .pt p := rfl
theorem prt_pt {p : Pl} : prt (.pt p) = .pt p := rfl
end Go.Pur
namespace Go.Pur
open Go.Abs
def andI (k : IntKind) (m n : Int) : Int := k.wrap (BitVec.ofInt k.bits m &&& BitVec.ofInt k.bits n).toNat
def orI (k : IntKind) (m n : Int) : Int := k.wrap (BitVec.ofInt k.bits m ||| BitVec.ofInt k.bits n).toNat
def andNotI (k : IntKind) (m n : Int) : Int := k.wrap (BitVec.ofInt k.bits m &&& ~~~ BitVec.ofInt k.bits n).toNat
def shrI (k : IntKind) (m n : Int) : Int := m.fdiv (2 ^ min n.toNat k.bits)
def shlI (k : IntKind) (m n : Int) : Int := k.wrap (m * 2 ^ min n.toNat k.bits)
def mulI (k : IntKind) (m n : Int) : Int := k.wrap (m * n)
section
variable {P : Program} {t : TypeId} {x y : Operand}
theorem prun_not {b : Bool} : prunP P (Op.unary .not (.bool b)) = some (.bool (!b)) := rfl
theorem prun_neg {n : Int} {k : IntKind} : prunP P (Op.unary .neg (.int k n)) = some (.int k (k.wrap (0 - n))) := rfl
theorem abinS_of {op : BinOp} {k j : IntKind} {m n : Int} {r : Value} (h0 : intFast op (.int k m) (.int j n) = none) (h1 : prun P (do eqGuard op t x y (.int k m) (.int j n); binOp op t (.int k m) (.int j n)) = some r) (h2 : plain r = true) : abin P op t x y (.int k m) (.int j n) = some r := by
 have h3 : abinS P op t x y (.int k m) (.int j n) = prunP P (do eqGuard op t x y (.int k m) (.int j n); binOp op t (.int k m) (.int j n)) := rfl
 unfold abin
 rw [h0]
 simp only []
 rw [h3]
 unfold prunP
 rw [h1]
 simp only []
 rw [h2]
theorem fast_none {op : BinOp} {k j : IntKind} {m n : Int} (h : ∀ k m n,intBin op k m n = none) : intFast op (.int k m) (.int j n) = none := by
 unfold intFast
 simp only [h]
 split <;> rfl
theorem abin_and {m n : Int} {k : IntKind} : abin P .and t x y (.int k m) (.int k n) = some (.int k (andI k m n)) := abinS_of (fast_none fun _ _ _ => rfl) (by simp [eqGuard,binOp]; rfl) rfl
theorem abin_or {m n : Int} {k : IntKind} : abin P .or t x y (.int k m) (.int k n) = some (.int k (orI k m n)) := abinS_of (fast_none fun _ _ _ => rfl) (by simp [eqGuard,binOp]; rfl) rfl
theorem abin_andNot {m n : Int} {k : IntKind} : abin P .andNot t x y (.int k m) (.int k n) = some (.int k (andNotI k m n)) := abinS_of (fast_none fun _ _ _ => rfl) (by simp [eqGuard,binOp]; rfl) rfl
theorem abin_mul {m n : Int} {k : IntKind} : abin P .mul t x y (.int k m) (.int k n) = some (.int k (mulI k m n)) := abinS_of (fast_none fun _ _ _ => rfl) (by simp [eqGuard,binOp]; rfl) rfl
theorem abin_shr {m n : Int} {k j : IntKind} (h : 0 ≤ n) : abin P .shr t x y (.int k m) (.int j n) = some (.int k (shrI k m n)) := by
 obtain ⟨n,rfl⟩ := Int.eq_ofNat_of_zero_le h
 exact abinS_of (fast_none fun _ _ _ => rfl) rfl rfl
theorem abin_shl {m n : Int} {k j : IntKind} (h : 0 ≤ n) : abin P .shl t x y (.int k m) (.int j n) = some (.int k (shlI k m n)) := by
 obtain ⟨n,rfl⟩ := Int.eq_ofNat_of_zero_le h
 exact abinS_of (fast_none fun _ _ _ => rfl) rfl rfl
theorem abin_add {m n : Int} {k : IntKind} : abin P .add t x y (.int k m) (.int k n) = some (.int k (k.wrap (m + n))) := by
 unfold abin intFast
 simp [intBin_add]
theorem abin_sub {m n : Int} {k : IntKind} : abin P .sub t x y (.int k m) (.int k n) = some (.int k (k.wrap (m - n))) := by
 unfold abin intFast
 simp [intBin_sub]
theorem abin_eql {m n : Int} {k : IntKind} : abin P .eql t x y (.int k m) (.int k n) = some (.bool (decide (m = n))) := by
 unfold abin intFast
 simp [intBin_eql]
theorem abin_neq {m n : Int} {k : IntKind} : abin P .neq t x y (.int k m) (.int k n) = some (.bool (!decide (m = n))) := by
 unfold abin intFast
 simp [intBin_neq]
theorem abin_lss {m n : Int} {k : IntKind} : abin P .lss t x y (.int k m) (.int k n) = some (.bool (decide (m < n))) := by
 unfold abin intFast
 simp [intBin_lss]
theorem abin_leq {m n : Int} {k : IntKind} : abin P .leq t x y (.int k m) (.int k n) = some (.bool (decide (m ≤ n))) := by
 unfold abin intFast
 simp [intBin_leq]
theorem abin_gtr {m n : Int} {k : IntKind} : abin P .gtr t x y (.int k m) (.int k n) = some (.bool (decide (n < m))) := by
 unfold abin intFast
 simp [intBin_gtr]
theorem abin_geq {m n : Int} {k : IntKind} : abin P .geq t x y (.int k m) (.int k n) = some (.bool (decide (n ≤ m))) := by
 unfold abin intFast
 simp [intBin_geq]
end
theorem noMaker_eq {ops : Array Oper} {q : Nat} : noMaker ops q = ops.toList.zipIdx.all fun (o,i) => decide (q ≤ i) || decide (kindOf o.op = 0) := by
 unfold noMaker
 congr 1
 funext x
 obtain ⟨o,i⟩ := x
 simp only [nble,nbeq]
section
variable {α : Type} {l r : List α} {k : Nat} {v : α}
theorem gAt : (l ++ r)[l.length + k]? = r[k]? := by rw [List.getElem?_append_right (by omega)]; congr 1; omega
theorem gAt0 : (l ++ r)[l.length]? = r[0]? := gAt (k := 0)
theorem sAt : (l ++ r).set (l.length + k) v = l ++ r.set k v := by rw [List.set_append,if_neg (by omega),Nat.add_sub_cancel_left]
theorem sAt0 : (l ++ r).set l.length v = l ++ r.set 0 v := sAt (k := 0)
end
end Go.Pur
namespace Go.Pur
open Go.Abs Go.RowKit
inductive CellIn (W : World) : Value → PV → Prop where
 | plain (x : Value) (hp : Abs.plain x = true) (hn : ∀ n c,x ≠ .slice none n c) : CellIn W x (.v x)
 | nil : CellIn W (.slice none 0 0) (.l .fz .any 0 [])
 | slice (a : Addr) (n cap : Nat) (xs : List Value) (hn : n ≤ cap) (hc : n < unkCap) (h0 : n = 0 → xs = []) (h1 : n ≠ 0 → xs ≠ []) (hx : ∀ k v,xs[k]? = some v → W.cell? (a.add k) = some v ∧ Abs.plain v = true ∧ ∀ n c,v ≠ .slice none n c) : CellIn W (.slice (some a) n cap) (.l .fz .any n (xs.map .v))
inductive CellsIn (W : World) : List Value → List PV → Prop where
 | nil : CellsIn W [] []
 | cons (v : Value) (u : PV) (vs : List Value) (us : List PV) (h : CellIn W v u) (ht : CellsIn W vs us) : CellsIn W (v :: vs) (u :: us)
inductive ArgIn (W : World) : Value → PV → Prop where
 | one (v : Value) (u : PV) (h : CellIn W v u) : ArgIn W v u
 | agg (cs : Array Value) (us : List PV) (h : CellsIn W cs.toList us) : ArgIn W (.agg cs) (.a us)
def C0 (P : Program) (n : Nat) : Ctx := ⟨P.cellsOf,fun _ => none,fun id => id < n,fun id => id < n,fun _ => none⟩
section
variable {P : Program} {W : World} {Y : Pol}
theorem cell_in {v : Value} {u : PV} (h : CellIn W v u) {G : List Blk} {GL : List Abs.Loc} (hG : G ≠ []) (hlen : G.length = GL.length) :
  ∃ (l : List Blk) (ls : List Abs.Loc) (x : Value),l.length = ls.length ∧ (∀ (i : Nat) (B : Blk) (L : Abs.Loc),l[i]? = some B → ls[i]? = some L → Lies W B L) ∧
   ∀ l2 ls2,VRel (mapOf (GL ++ ls ++ ls2)) x v ∧ ∀ π,VR (C0 P (G ++ l ++ l2).length) (heapOf (G ++ l ++ l2)) π u x := by
 cases h with
 | plain x hp hn => exact ⟨[],[],v,rfl,by simp,fun l2 ls2 => ⟨.plain _ hp,fun π => .v _ _ hp hn⟩⟩
 | nil => exact ⟨[],[],.slice none 0 0,rfl,by simp,fun l2 ls2 => ⟨.plain _ rfl,fun π => .nil _ _ _⟩⟩
 | slice a n cap xs hn hc h0 h1 hx =>
  by_cases hn0 : n = 0
  ·have := h0 hn0
   subst this; subst hn0
   have hlt : 0 < G.length := List.length_pos_iff.2 hG
   refine ⟨[],[],.slice (some ⟨0,0,none⟩) 0 roCap,rfl,by simp,fun l2 ls2 => ⟨.ro _ _ _ _ 0 hn (fun h => (h rfl).elim),fun π => ?_⟩⟩
   have hb : (heapOf (G ++ [] ++ l2)).get 0 = some G[0] := by
    rw [heapOf_get,List.append_nil,List.getElem?_append_left hlt,List.getElem?_eq_getElem hlt]
   exact .lst _ _ _ _ _ _ _ _ hb rfl (by show 0 < _; simp only [List.length_append]; omega) hc ⟨fun h => by (cases h),fun h => by (cases h),fun h => by (exact absurd h (by decide)),.inr (.inr (Nat.le_refl _)),fun h => by (cases h),by simp⟩ (by simp) (fun i hi => by (simp at hi))
  ·have hne := h1 hn0
   obtain ⟨v0,r,hvr⟩ := List.exists_cons_of_ne_nil hne
   have hc0 := (hx 0 v0 (by rw [hvr]; rfl)).1
   have hsp : a.spot = none := by
    unfold World.cell? at hc0
    split at hc0
    ·split at hc0
     ·cases hc0
     ·rename_i hs; simpa [Addr.add] using hs
    ·cases hc0
   have hadd : ∀ k,a.add k = ⟨a.block,a.off + k,none⟩ := fun k => by
    cases a with
    | mk b o s => simp only at hsp; subst hsp; exact WideShapes.add_plain b o k
   refine ⟨[⟨xs,0,false,false⟩],[⟨a.block,a.off,0⟩],.slice (some ⟨G.length,0,none⟩) n roCap,rfl, ?_,fun l2 ls2 => ⟨.ro _ _ _ _ 0 hn (fun _ => ⟨⟨a.block,a.off,0⟩, ?_,rfl, ?_,fun h => absurd rfl h⟩),fun π => ?_⟩⟩
   ·intro i B L hB hL
    cases i with
    | succ i => simp at hB
    | zero =>
     simp at hB hL
     subst hB; subst hL
     refine ⟨rfl,rfl, ?_,.inl hne,fun k v hk => ?_⟩
     ·rw [hadd] at hc0
      have := block_lt_of_cell hc0
      exact this
     ·obtain ⟨a1,a2,_⟩ := hx k v hk
      rw [hadd] at a1
      exact ⟨a1,a2⟩
   ·unfold mapOf
    rw [List.append_assoc,List.getElem?_append_right (by simp [hlen])]
    simp [hlen]
   ·cases a with
    | mk b o s => simp at hsp; subst hsp; simp
   ·have hb : (heapOf (G ++ [⟨xs,0,false,false⟩] ++ l2)).get G.length = some ⟨xs,0,false,false⟩ := by
     rw [heapOf_get,List.append_assoc,List.getElem?_append_right (Nat.le_refl _)]
     simp
    refine .lst _ _ _ _ _ _ _ _ hb rfl (by show G.length < _; simp only [List.length_append,List.length_cons]; omega) hc ⟨fun h => by (cases h),fun h => by (cases h),fun h => by (exact absurd h (by decide)),.inr (.inr (Nat.le_refl _)),fun h => by (cases h), ?_⟩ (by simp) (fun i hi => ?_)
    ·intro v hv
     obtain ⟨y,_,rfl⟩ := List.mem_map.1 hv
     rfl
    ·have hi' : i < xs.length := by simpa using hi
     have e : xs[i]? = some xs[i] := List.getElem?_eq_getElem hi'
     obtain ⟨_,p1,p2⟩ := hx i _ e
     simp [List.getD_eq_getElem?_getD,e]
     exact .v _ _ p1 p2
theorem cells_in {vs : List Value} {us : List PV} (h : CellsIn W vs us) : ∀ {G : List Blk} {GL : List Abs.Loc},G ≠ [] → G.length = GL.length →
  ∃ (l : List Blk) (ls : List Abs.Loc) (xs : List Value),l.length = ls.length ∧ (∀ (i : Nat) (B : Blk) (L : Abs.Loc),l[i]? = some B → ls[i]? = some L → Lies W B L) ∧
   ∀ l2 ls2,LRel (mapOf (GL ++ ls ++ ls2)) xs vs ∧ ∀ π,LR (C0 P (G ++ l ++ l2).length) (heapOf (G ++ l ++ l2)) π us xs := by
 induction h with
 | nil => exact fun {G GL} hG hlen => ⟨[],[],[],rfl,by simp,fun l2 ls2 => ⟨LRel.nil _,fun π => LR.nil _ _ _⟩⟩
 | cons v u vs us h ht ih =>
  intro G GL hG hlen
  obtain ⟨l,ls,x,a1,a2,a3⟩ := cell_in (P := P) h hG hlen
  obtain ⟨k,ks,xs,b1,b2,b3⟩ := ih (G := G ++ l) (GL := GL ++ ls) (by simp [hG]) (by simp [hlen,a1])
  refine ⟨l ++ k,ls ++ ks,x :: xs,by simp [a1,b1],fun i B L hB hL => ?_,fun l2 ls2 => ?_⟩
  ·by_cases hi : i < l.length
   ·rw [List.getElem?_append_left hi] at hB
    rw [List.getElem?_append_left (a1 ▸ hi)] at hL
    exact a2 i B L hB hL
   ·rw [List.getElem?_append_right (by omega)] at hB
    rw [List.getElem?_append_right (by omega),← a1] at hL
    exact b2 _ B L hB hL
  ·obtain ⟨c1,c2⟩ := a3 (k ++ l2) (ks ++ ls2)
   obtain ⟨d1,d2⟩ := b3 l2 ls2
   simp only [List.append_assoc] at c1 c2 d1 d2 ⊢
   exact ⟨LRel.cons c1 d1,fun π => LR.cons (c2 π) (d2 π)⟩
inductive ArgsIn (W : World) : List Value → List PV → Prop where
 | nil : ArgsIn W [] []
 | cons (v : Value) (u : PV) (vs : List Value) (us : List PV) (h : ArgIn W v u) (ht : ArgsIn W vs us) : ArgsIn W (v :: vs) (u :: us)
theorem arg_in {v : Value} {u : PV} (h : ArgIn W v u) {G : List Blk} {GL : List Abs.Loc} (hG : G ≠ []) (hlen : G.length = GL.length) :
  loose u = false ∧ ∃ (l : List Blk) (ls : List Abs.Loc) (x : Value),l.length = ls.length ∧ (∀ (i : Nat) (B : Blk) (L : Abs.Loc),l[i]? = some B → ls[i]? = some L → Lies W B L) ∧
   ∀ l2 ls2,VRel (mapOf (GL ++ ls ++ ls2)) x v ∧ ∀ π,VR (C0 P (G ++ l ++ l2).length) (heapOf (G ++ l ++ l2)) π u x := by
 cases h with
 | one _ _ h => exact ⟨by cases h <;> rfl,cell_in h hG hlen⟩
 | agg cs us h =>
  refine ⟨rfl, ?_⟩
  obtain ⟨l,ls,xs,a1,a2,a3⟩ := cells_in (P := P) h hG hlen
  refine ⟨l,ls,.agg xs.toArray,a1,a2,fun l2 ls2 => ?_⟩
  obtain ⟨b1,b2⟩ := a3 l2 ls2
  exact ⟨by simpa using VRel.agg_of b1,fun π => VR.agg_of (b2 none)⟩
theorem args_in {vs : List Value} {us : List PV} (h : ArgsIn W vs us) : ∀ {G : List Blk} {GL : List Abs.Loc},G ≠ [] → G.length = GL.length →
  ∃ (l : List Blk) (ls : List Abs.Loc) (xs : List Value),l.length = ls.length ∧ (∀ (i : Nat) (B : Blk) (L : Abs.Loc),l[i]? = some B → ls[i]? = some L → Lies W B L) ∧
   ∀ l2 ls2,LRel (mapOf (GL ++ ls ++ ls2)) xs vs ∧ LP1 (C0 P (G ++ l ++ l2).length) (heapOf (G ++ l ++ l2)) us xs := by
 induction h with
 | nil => exact fun {G GL} hG hlen => ⟨[],[],[],rfl,by simp,fun l2 ls2 => ⟨LRel.nil _,trivial⟩⟩
 | cons v u vs us h ht ih =>
  intro G GL hG hlen
  obtain ⟨hlo,l,ls,x,a1,a2,a3⟩ := arg_in (P := P) h hG hlen
  obtain ⟨k,ks,xs,b1,b2,b3⟩ := ih (G := G ++ l) (GL := GL ++ ls) (by simp [hG]) (by simp [hlen,a1])
  refine ⟨l ++ k,ls ++ ks,x :: xs,by simp [a1,b1],fun i B L hB hL => ?_,fun l2 ls2 => ?_⟩
  ·by_cases hi : i < l.length
   ·rw [List.getElem?_append_left hi] at hB
    rw [List.getElem?_append_left (a1 ▸ hi)] at hL
    exact a2 i B L hB hL
   ·rw [List.getElem?_append_right (by omega)] at hB
    rw [List.getElem?_append_right (by omega),← a1] at hL
    exact b2 _ B L hB hL
  ·obtain ⟨c1,c2⟩ := a3 (k ++ l2) (ks ++ ls2)
   obtain ⟨d1,d2⟩ := b3 l2 ls2
   simp only [List.append_assoc] at c1 c2 d1 d2 ⊢
   exact ⟨LRel.cons c1 d1,⟨fun d => c2 _,hlo⟩,d2⟩
end
end Go.Pur
namespace Go.Pur
open Go.Abs Go.RowKit Go.ChangeShapes Go.WideShapes
section
variable {H : Type} {enc : TypeId × Value → H} {P : Program} {W : World} {held : Bool}
def intOf : Value → Int
 | .int _ n => n
 | _ => 0
theorem arg_int {t : TypeId} {k : IntKind} {v : Value} {d : DataW H} {ps : List MemPlace} {r : Reach} {b0 : Nat} (ht : P.underlying t = some (.int k)) (hv : Value.okWide P W r b0 t v)
  (h : DataW.Trod enc P W 0 (fun _ => true) held t v d ps) : ∃ z : Int,v = .int k z ∧ ArgIn W v (.v (.int k z)) ∧ (Lit.int k z).wf = true := by
 obtain ⟨z,rfl⟩ := okWide_int ht hv
 obtain ⟨fuel,h⟩ := h
 obtain ⟨z',e1,_,e3⟩ := DataW.trod_int ht h
 simp [Value.cells] at e1
 subst e1
 exact ⟨z,rfl,.one _ _ (.plain _ rfl (fun _ _ e => by cases e)),e3⟩
end
end Go.Pur
set_option linter.unusedSimpArgs false
set_option linter.unusedVariables false
set_option linter.unusedSectionVars false
namespace Go.Pur
open Go.Abs Go.RowKit
inductive KA where
 | p (v : Value)
 | l (cs : List Value)
 | m (es : List MapEntry) (c : Nat)
inductive KR where
 | p (v : Value)
 | l (cs : List Value)
 | e (ty : TypeId)
 | ll (css : List (List Value))
def paArg : PV → Option KA
 | .v x => some (.p x)
 | .l _ _ n cs => match pplains cs,Nat.beq n cs.length with
  | some vs,true => some (.l vs)
  | _,_ => none
 | .a cs => match pplains cs with
  | some vs => some (.p (.agg vs.toArray))
  | none => none
 | .m _ es c => some (.m es c)
 | _ => none
def paArgs : List PV → Option (List KA)
 | [] => some []
 | v :: l => match paArg v,paArgs l with
  | some a,some as0 => some (a :: as0)
  | _,_ => none
def aaArg (h : AHeap) : Value → Option KA
 | .slice none n c => match n,c with
  | 0,0 => some (.l [])
  | _,_ => none
 | .slice (some a) n c => match Nat.ble unkCap c || Nat.ble n c with
  | true => match n with
   | 0 => some (.l [])
   | k + 1 => match cellsAt h a (k + 1) with
    | some cs => match cs.all plain with
     | true => some (.l cs)
     | false => none
    | none => none
  | false => none
 | .map (some a) => match h.getIt a with
  | some (.mp es c) => some (.m es c)
  | _ => none
 | v => match plainV v with
  | true => some (.p v)
  | false => none
def aaArgs (h : AHeap) : List Value → Option (List KA)
 | [] => some []
 | v :: l => match aaArg h v,aaArgs h l with
  | some a,some as0 => some (a :: as0)
  | _,_ => none
def okP : Value → Bool
 | .int _ _ | .bool _ | .string _ | .nilIface => true
 | _ => false
theorem okP_plain {v : Value} (h : okP v = true) : plain v = true := by
 cases v <;> first | rfl | (cases h; done)
def okL (cs : List Value) : Bool := cs.all okP && Nat.blt cs.length unkCap
def okR : KR → Bool
 | .p v => okP v
 | .l cs => cs.all okP && Nat.blt cs.length unkCap
 | .e _ => true
 | .ll css => css.all okL && Nat.blt css.length unkCap
def pIn (cs : List Value) : PV := .l .fz .any cs.length (cs.map .v)
def aIn : List (List Value) → AHeap → List Value × AHeap
 | [],h => ([],h)
 | cs :: r,h => (.slice (some ⟨h.next,0,none⟩) cs.length roCap :: (aIn r (h.alloc ⟨cs,0,false,false⟩)).1,(aIn r (h.alloc ⟨cs,0,false,false⟩)).2)
theorem aIn_len : ∀ {css : List (List Value)} {h : AHeap},(aIn css h).1.length = css.length
 | [],_ => rfl
 | cs :: r,h => by rw [aIn,List.length_cons,List.length_cons,aIn_len]
def pRes : List KR → List PV
 | [] => []
 | .p v :: r => .v v :: pRes r
 | .l cs :: r => .l .fz .any cs.length (cs.map .v) :: pRes r
 | .e ty :: r => .i ty .dead :: pRes r
 | .ll css :: r => .l .fz .any css.length (css.map pIn) :: pRes r
def aRes : List KR → AHeap → List Value × AHeap
 | [],h => ([],h)
 | .p v :: r,h => (v :: (aRes r h).1,(aRes r h).2)
 | .l cs :: r,h => (.slice (some ⟨h.next,0,none⟩) cs.length roCap :: (aRes r (h.alloc ⟨cs,0,false,false⟩)).1,(aRes r (h.alloc ⟨cs,0,false,false⟩)).2)
 | .e ty :: r,h => (.iface ty (.pointer (some ⟨h.next,0,none⟩)) :: (aRes r (h.alloc ⟨[],0,false,false⟩)).1,(aRes r (h.alloc ⟨[],0,false,false⟩)).2)
 | .ll css :: r,h => (.slice (some ⟨(aIn css h).2.next,0,none⟩) css.length roCap :: (aRes r ((aIn css h).2.alloc ⟨(aIn css h).1,0,false,false⟩)).1,(aRes r ((aIn css h).2.alloc ⟨(aIn css h).1,0,false,false⟩)).2)
def pPack : List PV → PV
 | [v] => v
 | vs => .t vs
def libP (e0 : List KA → Option (List KR)) (args : List PV) (hp : List (Option (List PV))) : Option (PV × List (Option (List PV)) × Option Nat) :=
 match paArgs args with
 | some as0 => match e0 as0 with
  | some rs => match rs.all okR with
   | true => some (pPack (pRes rs),hp,none)
   | false => none
  | none => none
 | none => none
def libA (e0 : List KA → Option (List KR)) (args : List Value) (h : AHeap) : Option (Value × AHeap) :=
 match aaArgs h args with
 | some as0 => match e0 as0 with
  | some rs => match rs.all okR with
   | true => some (packed (aRes rs h).1,(aRes rs h).2)
   | false => none
  | none => none
 | none => none
inductive LDen (w : World) : Value → KA → Prop where
 | p (v : Value) (h : plainV v = true) : LDen w v (.p v)
 | nil : LDen w (.slice none 0 0) (.l [])
 | emp (a : Addr) (c : Nat) : LDen w (.slice (some a) 0 c) (.l [])
 | lst (b o c : Nat) (cs : List Value) (hne : cs ≠ []) (hc : cs.length ≤ c) (hb : b < w.heap.size) (hr : w.rangeAt b o cs) : LDen w (.slice (some ⟨b,o,none⟩) cs.length c) (.l cs)
 | m (b : Nat) (es : List MapEntry) (c : Nat) (hw : w.heap[b]? = some (.map es.toArray c)) : LDen w (.map (some b)) (.m es c)
inductive LDens (w : World) : List Value → List KA → Prop where
 | nil : LDens w [] []
 | cons (v : Value) (a : KA) (vs : List Value) (as0 : List KA) (h : LDen w v a) (ht : LDens w vs as0) : LDens w (v :: vs) (a :: as0)
inductive IDens (n : Nat) (w : World) : List Value → List (List Value) → Prop where
 | nil : IDens n w [] []
 | cons (b o c : Nat) (cs : List Value) (C : Array Value) (e : TypeId) (fr : Nat × Nat) (us : List Value) (css : List (List Value)) (hc : cs.length ≤ c) (hb : n ≤ b) (hw : w.heap[b]? = some (.cells C e fr)) (hs : o + cs.length ≤ C.size)
   (hx : ∀ i,i < cs.length → cs.getD i undef = C.getD (o + i) undef) (ht : IDens n w us css) : IDens n w (.slice (some ⟨b,o,none⟩) cs.length c :: us) (cs :: css)
theorem IDens.len {n : Nat} {w : World} : ∀ {us : List Value} {css : List (List Value)},IDens n w us css → us.length = css.length
 | _,_,.nil => rfl
 | _,_,.cons _ _ _ _ _ _ _ _ _ _ _ _ _ _ ht => by rw [List.length_cons,List.length_cons,ht.len]
inductive RDen (n : Nat) (w : World) : Value → KR → Prop where
 | p (v : Value) : RDen n w v (.p v)
 | l (b o c : Nat) (cs : List Value) (C : Array Value) (e : TypeId) (fr : Nat × Nat) (hc : cs.length ≤ c) (hb : n ≤ b) (hw : w.heap[b]? = some (.cells C e fr)) (hs : o + cs.length ≤ C.size) (hx : ∀ i,i < cs.length → cs.getD i undef = C.getD (o + i) undef) : RDen n w (.slice (some ⟨b,o,none⟩) cs.length c) (.l cs)
 | e (b o : Nat) (ty : TypeId) (C : Array Value) (e : TypeId) (fr : Nat × Nat) (hb : n ≤ b) (hw : w.heap[b]? = some (.cells C e fr)) (hs : o ≤ C.size) : RDen n w (.iface ty (.pointer (some ⟨b,o,none⟩))) (.e ty)
 | ll (b o c : Nat) (css : List (List Value)) (us : List Value) (C : Array Value) (e : TypeId) (fr : Nat × Nat) (hi : IDens n w us css) (hc : css.length ≤ c) (hb : n ≤ b) (hw : w.heap[b]? = some (.cells C e fr)) (hs : o + css.length ≤ C.size)
   (hx : ∀ i,i < css.length → us.getD i undef = C.getD (o + i) undef) : RDen n w (.slice (some ⟨b,o,none⟩) css.length c) (.ll css)
inductive RDens (n : Nat) (w : World) : List Value → List KR → Prop where
 | nil : RDens n w [] []
 | cons (v : Value) (a : KR) (vs : List Value) (as0 : List KR) (h : RDen n w v a) (ht : RDens n w vs as0) : RDens n w (v :: vs) (a :: as0)
section
variable {P : Program} {Y : Pol}
theorem aaArg_den {m : BMap} {h : AHeap} {w : World} (hR : Rel P m h w) {v v' : Value} {a : KA} (ha : aaArg h v = some a) (hv : VRel m v v') : LDen w v' a := by
 unfold aaArg at ha
 split at ha
 ·split at ha
  ·cases ha; rw [hv.inv_snil]; exact .nil
  ·cases ha
 ·rename_i a0 n c
  split at ha
  ·rename_i hcap
   split at ha
   ·cases ha
    obtain ⟨a',c',rfl,_⟩ := hv.inv_slice
    exact .emp _ _
   ·rename_i k
    split at ha
    ·rename_i cs hcs
     split at ha
     ·rename_i hpl
      cases ha
      obtain ⟨a',c',rfl,h1,h2,h3⟩ := hv.inv_slice
      obtain ⟨L,hm,hs,rfl,_⟩ := h1 (.inl (Nat.succ_ne_zero k))
      obtain ⟨cs',hr,hrange,hlen⟩ := cellsAt_rel hR hm hcs
      have e : cs' = cs := LRel.all_plain hr hpl
      subst e
      rw [show k.succ = cs'.length from hlen.symm]
      refine .lst _ _ _ _ (fun e => by rw [e] at hlen; cases hlen) ?_ (hR.lt _ _ hm) hrange
      rw [hlen]
      simp only [Bool.or_eq_true,Nat.ble_eq] at hcap
      by_cases hc : c < unkCap
      ·rw [h2 hc]
       exact hcap.elim (fun hh => absurd hh (Nat.not_le.2 hc)) (fun hh => hh)
      ·exact (h3 (Nat.not_lt.1 hc)).2
     ·cases ha
    ·cases ha
  ·cases ha
 ·rename_i a0
  split at ha
  ·rename_i es c hx
   cases ha
   obtain ⟨L,hm,rfl⟩ := hv.inv_map
   exact .m _ _ _ (hR.its.at_ a0 _ L hx hm).1
  ·cases ha
 ·split at ha
  ·rename_i hp
   cases ha
   rw [hv.inv_plainV hp]
   exact .p _ hp
  ·cases ha
theorem aaArgs_den {m : BMap} {h : AHeap} {w : World} (hR : Rel P m h w) : ∀ {vs vs' : List Value} {as0 : List KA},aaArgs h vs = some as0 → LRel m vs vs' → LDens w vs' as0
 | [],vs',as0,ha,hv => by
  cases ha
  rcases hv.ind with ⟨_,rfl⟩ | ⟨_,_,_,_,h1,_⟩
  ·exact .nil
  ·cases h1
 | v :: vs,vs',as0,ha,hv => by
  rcases hv.ind with ⟨h1,_⟩ | ⟨v0,u,r,us,h1,rfl,h3,h4⟩
  ·cases h1
  ·cases h1
   unfold aaArgs at ha
   split at ha
   ·rename_i a as' h5 h6
    cases ha
    exact .cons _ _ _ _ (aaArg_den hR h5 h3) (aaArgs_den hR h6 h4)
   ·cases ha
theorem rel_own {m0 : BMap} {h0 : AHeap} {w0 : World} {m : BMap} {h : AHeap} {w : World} (hR : Rel P m h w) (hS : Sim m0 h0 w0 m h w) (hnew : ∀ a L,m a = some L → m0 a = some L ∨ w0.heap.size ≤ L.b) (hro : ∀ a B L,h.get a = some B → m a = some L → w0.heap.size ≤ L.b → B.wr = false)
  (hlt : ∀ a L,m0 a = some L → L.b < w0.heap.size) (hit : ∀ a x L,h.getIt a = some x → m a = some L → L.b < w0.heap.size)
  {cs : List Value} {b o : Nat} {C : Array Value} {e : TypeId} {fr : Nat × Nat} (hb : w0.heap.size ≤ b) (hw : w.heap[b]? = some (.cells C e fr)) (hs : o + cs.length ≤ C.size) (hx : ∀ i,i < cs.length → VRel m (cs.getD i undef) (C.getD (o + i) undef)) (cap : Nat) :
  Rel P (upd m h.next ⟨b,o,cap⟩) (h.alloc ⟨cs,0,false,false⟩) w ∧ Sim m0 h0 w0 (upd m h.next ⟨b,o,cap⟩) (h.alloc ⟨cs,0,false,false⟩) w ∧
   (∀ a L,upd m h.next ⟨b,o,cap⟩ a = some L → m0 a = some L ∨ w0.heap.size ≤ L.b) ∧ (∀ a B L,(h.alloc ⟨cs,0,false,false⟩).get a = some B → upd m h.next ⟨b,o,cap⟩ a = some L → w0.heap.size ≤ L.b → B.wr = false) ∧
   (∀ a x L,(h.alloc ⟨cs,0,false,false⟩).getIt a = some x → upd m h.next ⟨b,o,cap⟩ a = some L → L.b < w0.heap.size) := by
 have hf := hR.fresh h.next (Nat.le_refl _)
 have hext := upd_ext (L := ⟨b,o,cap⟩) hf
 have hblt : b < w.heap.size := (Array.getElem?_eq_some_iff.1 hw).1
 have hcase : ∀ a K,upd m h.next ⟨b,o,cap⟩ a = some K → (a = h.next ∧ K = ⟨b,o,cap⟩) ∨ (a ≠ h.next ∧ m a = some K) := fun a K hk => by
  unfold upd at hk
  split at hk
  ·cases hk; exact .inl ⟨‹_›,rfl⟩
  ·exact .inr ⟨‹_›,hk⟩
 have hits : ItRel (upd m h.next ⟨b,o,cap⟩) (h.alloc ⟨cs,0,false,false⟩) w := hR.its.keep rfl (Nat.le_succ _) (fun a K hk hs => by
   rcases hcase a K hk with ⟨rfl,_⟩ | ⟨_,hk⟩
   ·rw [hR.its.wf _ (Nat.le_refl _)] at hs; cases hs
   ·exact hk) (fun r x hr => hr)
 refine ⟨⟨?_, ?_, ?_, ?_, ?_, ?_,hits⟩,⟨?_,hS.os,hS.output,hS.tape,hS.size, ?_, ?_,hS.low,Nat.le_trans hS.next (Nat.le_succ _), ?_, ?_, ?_, ?_, ?_⟩, ?_, ?_, ?_⟩
 ·intro a K hk
  rcases hcase a K hk with ⟨_,rfl⟩ | ⟨_,hk⟩
  ·exact hblt
  ·exact hR.lt a K hk
 ·intro a ha
  have ha' : h.next + 1 ≤ a := ha
  unfold upd
  rw [if_neg (by omega)]
  exact hR.fresh a (by omega)
 ·intro a B' K hg hk
  rw [AHeap.get_alloc] at hg
  rcases hcase a K hk with ⟨rfl,rfl⟩ | ⟨hne,hk⟩
  ·rw [if_pos rfl] at hg
   cases hg
   exact ⟨C,e,fr,hw,(fun hh => by cases hh),hs,(fun i hi => (hx i hi).mono hext),fun hh => by cases hh⟩
  ·rw [if_neg hne] at hg
   exact ((hR.blk a B' K hg hk).mono hext).same rfl
 ·intro a a' B1 B2 K1 K2 g1 g2 k1 k2 he hne
  rw [AHeap.get_alloc] at g1 g2
  rcases hcase a K1 k1 with ⟨rfl,rfl⟩ | ⟨n1,k1⟩
  ·rcases hcase a' K2 k2 with ⟨rfl,rfl⟩ | ⟨n2,k2⟩
   ·exact absurd rfl hne
   ·rw [if_pos rfl] at g1
    rw [if_neg n2] at g2
    cases g1
    exact ⟨rfl,hro a' B2 K2 g2 k2 (by rw [← he]; exact hb)⟩
  ·rcases hcase a' K2 k2 with ⟨rfl,rfl⟩ | ⟨n2,k2⟩
   ·rw [if_neg n1] at g1
    rw [if_pos rfl] at g2
    cases g2
    exact ⟨hro a B1 K1 g1 k1 (by rw [he]; exact hb),rfl⟩
   ·rw [if_neg n1] at g1
    rw [if_neg n2] at g2
    exact hR.inj a a' B1 B2 K1 K2 g1 g2 k1 k2 he hne
 ·intro g hg
  exact hext _ _ (hR.glob g hg)
 ·intro a ha
  have ha' : h.next + 1 ≤ a := ha
  rw [AHeap.get_alloc,if_neg (by omega)]
  exact hR.wf a (by omega)
 ·intro a L hL; exact hext _ _ (hS.ext a L hL)
 ·exact hS.frame
 ·intro a K hk
  rcases hcase a K hk with ⟨_,rfl⟩ | ⟨_,hk⟩
  ·exact .inr (.inl hb)
  ·exact hS.img a K hk
 ·intro a ha
  unfold upd
  rw [if_neg (by have := hS.next; omega)]
  exact hS.newm a ha
 ·intro a ha hl
  rw [AHeap.get_alloc,if_neg (by have := hS.next; omega)]
  exact hS.old a ha hl
 ·intro a ha hd
  rw [AHeap.get_alloc,if_neg (by have := hS.next; omega)]; exact hS.dead a ha hd
 ·intro a B' ha hg
  rw [AHeap.get_alloc,if_neg (by have := hS.next; omega)] at hg
  exact hS.wrs a B' ha hg
 ·exact hS.itd
 ·intro a L hL
  rcases hcase a L hL with ⟨_,rfl⟩ | ⟨_,hL⟩
  ·exact .inr hb
  ·exact hnew a L hL
 ·intro a B L hg hL hn
  rw [AHeap.get_alloc] at hg
  rcases hcase a L hL with ⟨rfl,rfl⟩ | ⟨hne,hL⟩
  ·rw [if_pos rfl] at hg; cases hg; rfl
  ·rw [if_neg hne] at hg
   exact hro a B L hg hL hn
 ·intro a x L hg hL
  have hg' : h.getIt a = some x := hg
  rcases hcase a L hL with ⟨rfl,_⟩ | ⟨_,hL⟩
  ·rw [hR.its.wf _ (Nat.le_refl _)] at hg'; cases hg'
  ·exact hit a x L hg' hL
theorem plain_getD {cs : List Value} (h : cs.all okP = true) {m : BMap} {i : Nat} (hi : i < cs.length) : VRel m (cs.getD i undef) (cs.getD i undef) := by
 rw [List.getD_eq_getElem?_getD,List.getElem?_eq_getElem hi]
 exact .plain _ (okP_plain (List.all_eq_true.1 h _ (List.getElem_mem hi)))
theorem aIn_rel {m0 : BMap} {h0 : AHeap} {w0 : World} {w : World} (hlt : ∀ a L,m0 a = some L → L.b < w0.heap.size) : ∀ {css : List (List Value)} {us : List Value} {m : BMap} {h : AHeap},Rel P m h w → Sim m0 h0 w0 m h w → (∀ a L,m a = some L → m0 a = some L ∨ w0.heap.size ≤ L.b) →
  (∀ a B L,h.get a = some B → m a = some L → w0.heap.size ≤ L.b → B.wr = false) → (∀ a x L,h.getIt a = some x → m a = some L → L.b < w0.heap.size) → css.all okL = true → IDens w0.heap.size w us css →
  ∃ m',(∀ a L,m a = some L → m' a = some L) ∧ LRel m' (aIn css h).1 us ∧ Rel P m' (aIn css h).2 w ∧ Sim m0 h0 w0 m' (aIn css h).2 w ∧ (∀ a L,m' a = some L → m0 a = some L ∨ w0.heap.size ≤ L.b) ∧
   (∀ a B L,(aIn css h).2.get a = some B → m' a = some L → w0.heap.size ≤ L.b → B.wr = false) ∧ (∀ a x L,(aIn css h).2.getIt a = some x → m' a = some L → L.b < w0.heap.size)
 | [],us,m,h,hR,hS,h1,h2,h3,_,hd => by cases hd; exact ⟨m,fun _ _ h => h,LRel.nil _,hR,hS,h1,h2,h3⟩
 | cs :: css,us,m,h,hR,hS,hnew,hro,hit,hok,hd => by
  cases hd with
  | cons b o c _ C e fr us' _ hc hb hw hs hx ht =>
  simp only [List.all_cons,Bool.and_eq_true] at hok
  have hok1 : cs.all okP = true := by have := hok.1; simp only [okL,Bool.and_eq_true] at this; exact this.1
  obtain ⟨r1,r2,r3,r4,r5⟩ := rel_own hR hS hnew hro hlt hit (cs := cs) (o := o) hb hw hs (fun i hi => by rw [← hx i hi]; exact plain_getD hok1 hi) 0
  obtain ⟨m',e1,e2,e3,e4,e5⟩ := aIn_rel hlt r1 r2 r3 r4 r5 hok.2 ht
  refine ⟨m',fun a L hL => e1 a L (upd_ext (hR.fresh _ (Nat.le_refl _)) a L hL),LRel.cons ?_ e2,e3,e4,e5⟩
  exact .ro _ _ _ _ 0 hc (fun _ => ⟨⟨b,o,0⟩,e1 _ _ (by unfold upd; rw [if_pos rfl]),rfl,rfl,fun hh => absurd rfl hh⟩)
theorem aRes_rel {m0 : BMap} {h0 : AHeap} {w0 : World} {w : World} (hlt : ∀ a L,m0 a = some L → L.b < w0.heap.size) : ∀ {rs : List KR} {vs : List Value} {m : BMap} {h : AHeap},Rel P m h w → Sim m0 h0 w0 m h w → (∀ a L,m a = some L → m0 a = some L ∨ w0.heap.size ≤ L.b) →
  (∀ a B L,h.get a = some B → m a = some L → w0.heap.size ≤ L.b → B.wr = false) → (∀ a x L,h.getIt a = some x → m a = some L → L.b < w0.heap.size) → rs.all okR = true → RDens w0.heap.size w vs rs →
  ∃ m',(∀ a L,m a = some L → m' a = some L) ∧ LRel m' (aRes rs h).1 vs ∧ Rel P m' (aRes rs h).2 w ∧ Sim m0 h0 w0 m' (aRes rs h).2 w
 | [],vs,m,h,hR,hS,_,_,_,_,hd => by cases hd; exact ⟨m,fun _ _ h => h,LRel.nil _,hR,hS⟩
 | r :: rs,vs,m,h,hR,hS,hnew,hro,hit,hok,hd => by
  cases hd with
  | cons v _ vs' _ hv ht =>
  simp only [List.all_cons,Bool.and_eq_true] at hok
  cases hv with
  | p x =>
   obtain ⟨m',e1,e2,e3,e4⟩ := aRes_rel hlt hR hS hnew hro hit hok.2 ht
   exact ⟨m',e1,LRel.cons (.plain _ (okP_plain hok.1)) e2,e3,e4⟩
  | l b o c cs C e fr hc hb hw hs hx =>
   have hok1 : cs.all okP = true := by have := hok.1; simp only [okR,Bool.and_eq_true] at this; exact this.1
   obtain ⟨r1,r2,r3,r4,r5⟩ := rel_own hR hS hnew hro hlt hit (cs := cs) (o := o) hb hw hs (fun i hi => by rw [← hx i hi]; exact plain_getD hok1 hi) 0
   obtain ⟨m',e1,e2,e3,e4⟩ := aRes_rel hlt r1 r2 r3 r4 r5 hok.2 ht
   refine ⟨m',fun a L hL => e1 a L (upd_ext (hR.fresh _ (Nat.le_refl _)) a L hL),LRel.cons ?_ e2,e3,e4⟩
   exact .ro _ _ _ _ 0 hc (fun _ => ⟨⟨b,o,0⟩,e1 _ _ (by unfold upd; rw [if_pos rfl]),rfl,rfl,fun hh => absurd rfl hh⟩)
  | e b o ty C e fr hb hw hs =>
   obtain ⟨r1,r2,r3,r4,r5⟩ := rel_own hR hS hnew hro hlt hit (cs := []) (o := o) hb hw hs (fun i hi => absurd hi (Nat.not_lt_zero _)) 0
   obtain ⟨m',e1,e2,e3,e4⟩ := aRes_rel hlt r1 r2 r3 r4 r5 hok.2 ht
   refine ⟨m',fun a L hL => e1 a L (upd_ext (hR.fresh _ (Nat.le_refl _)) a L hL),LRel.cons (.iface _ _ _ ?_) e2,e3,e4⟩
   exact .ptr ⟨h.next,0,none⟩ ⟨b,o,0⟩ (e1 _ _ (by unfold upd; rw [if_pos rfl])) rfl
  | ll b o c css us C e fr hi hc hb hw hs hx =>
   have hok1 : css.all okL = true := by have := hok.1; simp only [okR,Bool.and_eq_true] at this; exact this.1
   obtain ⟨m1,f1,f2,f3,f4,f5,f6,f7⟩ := aIn_rel hlt hR hS hnew hro hit hok1 hi
   obtain ⟨r1,r2,r3,r4,r5⟩ := rel_own f3 f4 f5 f6 hlt f7 (cs := (aIn css h).1) (o := o) hb hw (by rw [aIn_len]; exact hs) (fun i hi => by rw [← hx i (by rw [aIn_len] at hi; exact hi)]; exact f2.2 i hi) 0
   obtain ⟨m',e1,e2,e3,e4⟩ := aRes_rel hlt r1 r2 r3 r4 r5 hok.2 ht
   refine ⟨m',fun a L hL => e1 a L (upd_ext (f3.fresh _ (Nat.le_refl _)) a L (f1 a L hL)),LRel.cons ?_ e2,e3,e4⟩
   exact .ro _ _ _ _ 0 hc (fun _ => ⟨⟨b,o,0⟩,e1 _ _ (by unfold upd; rw [if_pos rfl]),rfl,rfl,fun hh => absurd rfl hh⟩)
theorem packed_ext {m : BMap} {l l' : List Value} (h : LRel m l l') : VRel m (packed l) (packed l') := by
 rcases h.ind with ⟨rfl,rfl⟩ | ⟨v,v',r,r',rfl,rfl,h1,h2⟩
 ·exact .tuple _ _ rfl (fun i hi => absurd hi (Nat.not_lt_zero _))
 ·rcases h2.ind with ⟨rfl,rfl⟩ | ⟨_,_,_,_,rfl,rfl,_,_⟩
  ·exact h1
  ·exact VRel.tuple_of h
theorem pplains_lr {C : Ctx} {h : AHeap} {π : Option Pl} : ∀ {us : List PV} {vs xs : List Value},pplains us = some vs → LR C h π us xs → vs = xs ∧ ∀ v ∈ vs,plain v = true
 | [],vs,xs,hq,hl => by
  cases hq
  rcases hl.ind with ⟨_,rfl⟩ | ⟨_,_,_,_,h1,_⟩
  ·exact ⟨rfl,fun _ h => by cases h⟩
  ·cases h1
 | u :: us,vs,xs,hq,hl => by
  rcases hl.ind with ⟨h1,_⟩ | ⟨u0,x,r,ys,h1,rfl,h3,h4⟩
  ·cases h1
  ·cases h1
   unfold pplains at hq
   split at hq
   ·rename_i hh; cases hh
   ·rename_i x0 l hh
    cases hh
    split at hq
    ·rename_i r hr
     cases hq
     obtain ⟨e,hp⟩ := pplains_lr hr h4
     obtain ⟨e1,e2,_⟩ := h3.inv_v
     subst e1; subst e
     exact ⟨rfl,fun v hv => by
      rcases List.mem_cons.1 hv with rfl | hv
      ·exact e2
      ·exact hp v hv⟩
    ·cases hq
   ·cases hq
theorem paArg_vr {C : Ctx} {h : AHeap} {π : Option Pl} {u : PV} {x : Value} {a : KA} (ha : paArg u = some a) (hv : VR C h π u x) : aaArg h x = some a := by
 unfold paArg at ha
 split at ha
 ·cases ha
  obtain ⟨rfl,h2,h3⟩ := hv.inv_v
  unfold aaArg
  split
  ·rename_i n c; exact absurd rfl (h3 n c)
  ·rename_i a n c; cases h2
  ·rename_i a; cases h2
  ·rename_i h4 h5 h6
   have : plainV x = true := by
    cases x <;> first | exact h2 | (cases h2; done)
   rw [this]
 ·rename_i k c n cs
  split at ha
  ·rename_i vs hvs hn
   cases ha
   have hn := Nat.eq_of_beq_eq_true hn
   rcases hv.inv_l with ⟨rfl,rfl,rfl⟩ | ⟨ad,cap,B,rfl,hb,hs,hk,hlt,hc,hl,hcs⟩
   ·cases hvs; rfl
   ·have hl' := hcs
    obtain ⟨e,hp⟩ := pplains_lr hvs hl'
    unfold aaArg
    have hcap : (Nat.ble unkCap cap || Nat.ble n cap) = true := by
     by_cases hh : cap < unkCap
     ·have := hc.le hh
      simp [Nat.ble_eq,this]
     ·have := Nat.not_lt.1 hh
      simp [Nat.ble_eq,this]
    simp only [hcap]
    cases n with
    | zero =>
     have : cs = [] := List.length_eq_zero_iff.1 hn.symm
     subst this
     cases hvs; rfl
    | succ k =>
     have hcell : cellsAt h ad (k + 1) = some vs := by
      unfold cellsAt
      rw [hb]
      simp only []
      rw [e,hn]
      exact takeN_of (by simp; omega)
     simp only [hcell]
     rw [List.all_eq_true.2 hp]
  ·cases ha
 ·rename_i cs
  split at ha
  ·rename_i vs hvs
   cases ha
   obtain ⟨l,rfl,hl⟩ := hv.inv_a
   obtain ⟨e,hp⟩ := pplains_lr hvs hl
   subst e
   show (match plainV (.agg l) with | true => some (KA.p (.agg l)) | false => none) = _
   have : plainV (.agg l) = true := List.all_eq_true.2 hp
   rw [this]
  ·cases ha
 ·rename_i k es c
  cases ha
  cases hv with
  | m _ _ _ _ id hk hi =>
   unfold aaArg
   simp only [hi]
 ·cases ha
where takeN_of : ∀ {n : Nat} {l : List Value}, n ≤ l.length → takeN n l = some (l.take n)
 | 0,_,_ => by simp [takeN]
 | n + 1,[],h => by simp at h
 | n + 1,x :: l,h => by
  unfold takeN
  rw [takeN_of (by simpa using h)]
  rfl
theorem paArg_aa {C : Ctx} {h : AHeap} {u : PV} {x : Value} {a : KA} (ha : paArg u = some a) (hv : VA C h u x) : aaArg h x = some a := paArg_vr ha (hv 0)
theorem paArgs_aa {C : Ctx} {h : AHeap} : ∀ {us : List PV} {xs : List Value} {as0 : List KA},paArgs us = some as0 → LP1 C h us xs → aaArgs h xs = some as0
 | [],[],as0,ha,_ => ha
 | [],_ :: _,_,_,hl => hl.elim
 | _ :: _,[],_,_,hl => hl.elim
 | u :: us,x :: xs,as0,ha,hl => by
  unfold paArgs at ha
  split at ha
  ·rename_i a as' h1 h2
   cases ha
   unfold aaArgs
   rw [paArg_aa h1 hl.1.1,paArgs_aa h2 hl.2]
  ·cases ha
theorem pRes_firm : ∀ {rs : List KR},(pRes rs).all firm = true
 | [] => rfl
 | .p v :: r => by simp only [pRes,List.all_cons,pRes_firm (rs := r),Bool.and_true]; rfl
 | .l cs :: r => by simp only [pRes,List.all_cons,pRes_firm (rs := r),Bool.and_true]; rfl
 | .e ty :: r => by simp only [pRes,List.all_cons,pRes_firm (rs := r),Bool.and_true]; rfl
 | .ll css :: r => by simp only [pRes,List.all_cons,pRes_firm (rs := r),Bool.and_true]; rfl
theorem look_none {f : FuncId} {hp : List (Option (List PV))} {t : Nat} : look Y f ⟨[],.nil,hp,none⟩ t = none := by
 unfold look
 split <;> rfl
theorem Old.trans {C C1 C2 : Ctx} {h h1 h2 : AHeap} (o1 : Old C C1 h h1) (o2 : Old C1 C2 h1 h2) : Old C C2 h h2 :=
 ⟨o2.sz.trans o1.sz,fun b id hb => o2.β _ _ (o1.β _ _ hb),fun id hid => o2.fz _ (o1.fz _ hid),fun id hid => o2.fx _ (o1.fx _ hid),fun id p hid => o2.ow _ _ (o1.ow _ _ hid),
  fun id hid => (o2.get id (hid.elim (fun hh => .inl (o1.fx _ hh)) (fun ⟨p,hh⟩ => .inr ⟨p,o1.ow _ _ hh⟩))).trans (o1.get id hid),fun id hid => (o2.git id (hid.elim (fun hh => .inl (o1.fx _ hh)) (fun ⟨p,hh⟩ => .inr ⟨p,o1.ow _ _ hh⟩))).trans (o1.git id hid)⟩
theorem new_list {C1 : Ctx} {h1 : AHeap} {cs : List Value} {id : Nat} (hok : okL cs = true) (hz : C1.fz id) (hg : h1.get id = some ⟨cs,0,false,false⟩) : VR C1 h1 none (pIn cs) (.slice (some ⟨id,0,none⟩) cs.length roCap) := by
 have hok1 : cs.all okP = true ∧ cs.length < unkCap := by
  simp only [okL,Bool.and_eq_true,Nat.blt_eq] at hok
  exact hok
 refine .lst _ _ _ _ _ _ _ _ hg rfl hz hok1.2 ⟨fun e => by (cases e),fun e => by (cases e),fun e => absurd e (by decide),.inr (.inr (Nat.le_refl _)),fun e => by (cases e), ?_⟩ (by simp) (fun i hi => ?_)
 ·intro v hv
  obtain ⟨y,_,rfl⟩ := List.mem_map.1 hv
  rfl
 ·have hi' : i < cs.length := by simpa using hi
  have e : cs[i]? = some cs[i] := List.getElem?_eq_getElem hi'
  have hp := List.all_eq_true.1 hok1.1 _ (List.getElem_mem hi')
  simp [List.getD_eq_getElem?_getD,e]
  exact .v _ _ (okP_plain hp) (fun n c e => by rw [e] at hp; cases hp)
theorem in_sim {f : FuncId} {hp : List (Option (List PV))} : ∀ {css : List (List Value)} {C : Ctx} {h : AHeap},css.all okL = true → ST P Y f C h ⟨[],.nil,hp,none⟩ .nil →
  ∃ C',ST P Y f C' (aIn css h).2 ⟨[],.nil,hp,none⟩ .nil ∧ Step (Y.keep f) (h.next ≤ ·) C h ⟨[],.nil,hp,none⟩ C' (aIn css h).2 ⟨[],.nil,hp,none⟩ ∧ Old C C' h (aIn css h).2 ∧ C'.β = C.β ∧ C'.ow = C.ow ∧ LR C' (aIn css h).2 none (css.map pIn) (aIn css h).1 ∧ h.next ≤ (aIn css h).2.next
 | [],C,h,_,st => ⟨C,st,.refl _ _ _ _ _,⟨rfl,fun _ _ h => h,fun _ h => h,fun _ h => h,fun _ _ h => h,fun _ _ => rfl,fun _ _ => rfl⟩,rfl,rfl,LR.nil _ _ _,Nat.le_refl _⟩
 | cs :: css,C,h,hok,st => by
  simp only [List.all_cons,Bool.and_eq_true] at hok
  have hf : ¬ Ids C h.next := fun hid => absurd (hid.lt st.hi) (Nat.lt_irrefl _)
  have nh : NewH h h.next ⟨cs,0,false,false⟩ (h.alloc ⟨cs,0,false,false⟩) := ⟨fun k => AHeap.get_alloc _ _ _,Nat.le_succ _,Nat.lt_succ_self _,rfl,rfl⟩
  obtain ⟨s1,t1,o1⟩ := newFz_sim st hf nh
  obtain ⟨C',s2,t2,o2,b2,w2,l2,n2⟩ := in_sim hok.2 s1
  have hfz : (withFz C h.next).fz h.next := .inr rfl
  refine ⟨C',s2,t1.trans t2 (fun _ e => Nat.le_of_eq e.symm) (fun _ e => Nat.le_trans (Nat.le_succ _) e),o1.trans o2,b2,w2,LR.cons ?_ l2,Nat.le_trans (Nat.le_succ _) n2⟩
  exact new_list hok.1 (o2.fz _ hfz) ((o2.get _ (.inl (.inr rfl))).trans (by rw [AHeap.get_alloc,if_pos rfl]))
theorem res_sim {f : FuncId} {hp : List (Option (List PV))} : ∀ {rs : List KR} {C : Ctx} {h : AHeap},rs.all okR = true → ST P Y f C h ⟨[],.nil,hp,none⟩ .nil →
  ∃ C',ST P Y f C' (aRes rs h).2 ⟨[],.nil,hp,none⟩ .nil ∧ Step (Y.keep f) (h.next ≤ ·) C h ⟨[],.nil,hp,none⟩ C' (aRes rs h).2 ⟨[],.nil,hp,none⟩ ∧ Old C C' h (aRes rs h).2 ∧ C'.β = C.β ∧ C'.ow = C.ow ∧ LR C' (aRes rs h).2 none (pRes rs) (aRes rs h).1
 | [],C,h,_,st => ⟨C,st,.refl _ _ _ _ _,⟨rfl,fun _ _ h => h,fun _ h => h,fun _ h => h,fun _ _ h => h,fun _ _ => rfl,fun _ _ => rfl⟩,rfl,rfl,LR.nil _ _ _⟩
 | r :: rs,C,h,hok,st => by
  simp only [List.all_cons,Bool.and_eq_true] at hok
  have step : ∀ (cs : List Value) (u : PV) (x : Value),(∀ C1 : Ctx,∀ h1 : AHeap,C1.fz h.next → h1.get h.next = some ⟨cs,0,false,false⟩ → VR C1 h1 none u x) → ∃ C',ST P Y f C' (aRes rs (h.alloc ⟨cs,0,false,false⟩)).2 ⟨[],.nil,hp,none⟩ .nil ∧
    Step (Y.keep f) (h.next ≤ ·) C h ⟨[],.nil,hp,none⟩ C' (aRes rs (h.alloc ⟨cs,0,false,false⟩)).2 ⟨[],.nil,hp,none⟩ ∧ Old C C' h (aRes rs (h.alloc ⟨cs,0,false,false⟩)).2 ∧ C'.β = C.β ∧ C'.ow = C.ow ∧
    LR C' (aRes rs (h.alloc ⟨cs,0,false,false⟩)).2 none (u :: pRes rs) (x :: (aRes rs (h.alloc ⟨cs,0,false,false⟩)).1) := by
   intro cs u x hu
   have hf : ¬ Ids C h.next := fun hid => absurd (hid.lt st.hi) (Nat.lt_irrefl _)
   have nh : NewH h h.next ⟨cs,0,false,false⟩ (h.alloc ⟨cs,0,false,false⟩) := ⟨fun k => AHeap.get_alloc _ _ _,Nat.le_succ _,Nat.lt_succ_self _,rfl,rfl⟩
   obtain ⟨s1,t1,o1⟩ := newFz_sim st hf nh
   obtain ⟨C',s2,t2,o2,b2,w2,l2⟩ := res_sim hok.2 s1
   have hfz : (withFz C h.next).fz h.next := .inr rfl
   refine ⟨C',s2,t1.trans t2 (fun _ e => Nat.le_of_eq e.symm) (fun _ e => Nat.le_trans (Nat.le_succ _) e), ?_,b2,w2,LR.cons ?_ l2⟩
   ·exact ⟨o2.sz.trans o1.sz,fun b id hb => o2.β _ _ (o1.β _ _ hb),fun id hid => o2.fz _ (o1.fz _ hid),fun id hid => o2.fx _ (o1.fx _ hid),fun id p hid => o2.ow _ _ (o1.ow _ _ hid),
     fun id hid => (o2.get id (hid.elim (fun hh => .inl (o1.fx _ hh)) (fun ⟨p,hh⟩ => .inr ⟨p,o1.ow _ _ hh⟩))).trans (o1.get id hid),fun id hid => (o2.git id (hid.elim (fun hh => .inl (o1.fx _ hh)) (fun ⟨p,hh⟩ => .inr ⟨p,o1.ow _ _ hh⟩))).trans (o1.git id hid)⟩
   ·exact hu C' _ (o2.fz _ hfz) ((o2.get _ (.inl (.inr rfl))).trans (by rw [AHeap.get_alloc,if_pos rfl]))
  cases r with
  | p v =>
   obtain ⟨C',s2,t2,o2,b2,w2,l2⟩ := res_sim hok.2 st
   exact ⟨C',s2,t2,o2,b2,w2,LR.cons (.v _ _ (okP_plain hok.1) (fun n c e => by rw [e] at hok; exact absurd hok.1 (by simp [okR,okP]))) l2⟩
  | l cs =>
   have hok1 : cs.all okP = true ∧ cs.length < unkCap := by
    have := hok.1
    simp only [okR,Bool.and_eq_true,Nat.blt_eq] at this
    exact this
   refine step cs _ _ (fun C1 h1 hz hg => ?_)
   refine .lst _ _ _ _ _ _ _ _ hg rfl hz hok1.2 ⟨fun e => by (cases e),fun e => by (cases e),fun e => absurd e (by decide),.inr (.inr (Nat.le_refl _)),fun e => by (cases e), ?_⟩ (by simp) (fun i hi => ?_)
   ·intro v hv
    obtain ⟨y,_,rfl⟩ := List.mem_map.1 hv
    rfl
   ·have hi' : i < cs.length := by simpa using hi
    have e : cs[i]? = some cs[i] := List.getElem?_eq_getElem hi'
    have hp := List.all_eq_true.1 hok1.1 _ (List.getElem_mem hi')
    simp [List.getD_eq_getElem?_getD,e]
    exact .v _ _ (okP_plain hp) (fun n c e => by rw [e] at hp; cases hp)
  | e ty =>
   exact step [] _ _ (fun C1 h1 hz hg => .i _ _ _ _ (.dead _ _))
  | ll css =>
   have hok1 : css.all okL = true ∧ css.length < unkCap := by
    have := hok.1
    simp only [okR,Bool.and_eq_true,Nat.blt_eq] at this
    exact this
   obtain ⟨C1,s1,t1,o1,b1,w1,l1,n1⟩ := in_sim (f := f) (hp := hp) hok1.1 st
   have hf : ¬ Ids C1 (aIn css h).2.next := fun hid => absurd (hid.lt s1.hi) (Nat.lt_irrefl _)
   have nh : NewH (aIn css h).2 (aIn css h).2.next ⟨(aIn css h).1,0,false,false⟩ ((aIn css h).2.alloc ⟨(aIn css h).1,0,false,false⟩) := ⟨fun k => AHeap.get_alloc _ _ _,Nat.le_succ _,Nat.lt_succ_self _,rfl,rfl⟩
   obtain ⟨s2,t2,o2⟩ := newFz_sim s1 hf nh
   obtain ⟨C',s3,t3,o3,b3,w3,l3⟩ := res_sim hok.2 s2
   refine ⟨C',s3,t1.trans (t2.trans t3 (N := fun id => h.next ≤ id) (fun _ e => by rw [e]; exact n1) (fun _ e => Nat.le_trans n1 (Nat.le_trans (Nat.le_succ _) e))) (fun _ e => e) (fun _ e => e),o1.trans (o2.trans o3),b3.trans b1,w3.trans w1,LR.cons ?_ l3⟩
   have hz : C'.fz (aIn css h).2.next := o3.fz _ (.inr rfl)
   have hg : (aRes rs ((aIn css h).2.alloc ⟨(aIn css h).1,0,false,false⟩)).2.get (aIn css h).2.next = some ⟨(aIn css h).1,0,false,false⟩ := (o3.get _ (.inl (.inr rfl))).trans (by rw [AHeap.get_alloc,if_pos rfl])
   refine .lst _ _ _ _ _ _ _ _ hg rfl hz hok1.2 ⟨fun e => by (cases e),fun e => by (cases e),fun e => absurd e (by decide),.inr (.inr (Nat.le_refl _)),fun e => by (cases e), ?_⟩ (by simp [aIn_len]) (fun i hi => ?_)
   ·intro v hv
    obtain ⟨y,_,rfl⟩ := List.mem_map.1 hv
    rfl
   ·have hv := (l1.2 i hi).old (o := o2.trans o3) s1.hi.fzx
    simp only [Nat.zero_add]
    exact hv
theorem firm_any {C : Ctx} {h : AHeap} {d : Nat} (hsub : ∀ id,C.fz id → C.fx id) {u : PV} {x : Value} (hf : firm u = true) (h1 : VR C h none u x) : VR C h (some (.tmp d)) u x := by
 refine VR.step (C := C) (C' := C) (h := h) (h' := h) rfl (fun _ _ h => h) (fun _ h => h) (fun _ h => h) hsub (fun _ _ => rfl) (π := none) (π' := some (.tmp d)) (fun t e => by cases e) h1 ?_
 cases u with
 | l k c n cs => cases k <;> first | trivial | cases hf
 | r k cs => cases k <;> first | trivial | cases hf
 | m k es c => cases k <;> first | trivial | cases hf
 | it s pos => cases hf
 | _ => trivial
theorem pPack_vr {C : Ctx} {h : AHeap} {d : Nat} {us : List PV} {xs : List Value} (hsub : ∀ id,C.fz id → C.fx id) (hl : LR C h none us xs) (hf : us.all firm = true) : VR C h (some (.tmp d)) (pPack us) (packed xs) ∧ sound (pPack us) = true ∧ isOwn (pPack us) = false := by
 rcases hl.ind with ⟨rfl,rfl⟩ | ⟨u,x,r,r',rfl,rfl,h1,h2⟩
 ·exact ⟨.t _ _ _ rfl (fun i hi => absurd hi (Nat.not_lt_zero _)),rfl,rfl⟩
 ·rcases h2.ind with ⟨rfl,rfl⟩ | ⟨_,_,_,_,rfl,rfl,_,_⟩
  ·simp only [List.all_cons,Bool.and_eq_true] at hf
   refine ⟨firm_any hsub hf.1 h1, ?_,(firm_loose hf.1).2⟩
   show sound u = true
   cases u with
   | t cs => cases hf.1
   | l k c n cs => cases k <;> first | exact hf.1 | rfl
   | m k es c => cases k <;> first | exact hf.1 | rfl
   | _ => exact hf.1
  ·exact ⟨VR.tuple_of hl,hf,rfl⟩
theorem aIn_aext : ∀ {css : List (List Value)} {h : AHeap},AExt h (aIn css h).2
 | [],h => AExt.refl _
 | cs :: r,h => (AExt.alloc h _).trans (aIn_aext (css := r))
theorem fnOK_lib {g : FuncId} (e0 : List KA → Option (List KR)) (hx : Y.ext g = libP e0) (hb : (bodyOf P g).isSome = true)
  (hc : ∀ as0 rs,e0 as0 = some rs → ∀ m h w,Rel P m h w → ∀ args,LDens w args as0 → Calls P g args.toArray w fun e w' => ∃ vs,e = .returned (packed vs) ∧ Below w.heap.size w w' ∧ RDens w.heap.size w' vs rs) : FnOK P Y g := by
 refine ⟨libA e0,fun args h v h' hq => ?_,fun args hp r hp' w hq C h args' d hin => ?_⟩
 ·unfold libA at hq
  split at hq
  ·rename_i as0 has
   split at hq
   ·rename_i rs hrs
    split at hq
    ·rename_i hok
     cases hq
     refine ⟨aRes_ext,hb,fun m w args' hR hA => ?_⟩
     refine (hc as0 rs hrs m h w hR args' (aaArgs_den hR has hA)).mono fun e w' ⟨vs,he,hbl,hd⟩ => ?_
     obtain ⟨r1,r2⟩ := hR.below hbl
     obtain ⟨m',e1,e2,e3,e4⟩ := aRes_rel (m0 := m) (h0 := h) (w0 := w) (fun a L hL => hR.lt a L hL) r1 r2 (fun a L hL => .inl hL) (fun a B L _ hL hn => absurd (hR.lt a L hL) (Nat.not_lt.2 hn)) (fun a x L _ hL => hR.lt a L hL) hok hd
     exact ⟨m',packed vs,he,packed_ext e2,e3,e4⟩
    ·cases hq
   ·cases hq
  ·cases hq
 ·rw [hx] at hq
  unfold libP at hq
  split at hq
  ·rename_i as0 has
   split at hq
   ·rename_i rs hrs
    split at hq
    ·rename_i hok
     cases hq
     have st0 : ST P Y 0 C h ⟨[],.nil,hp,none⟩ .nil := ⟨hin.sz,hin.hi,fun t v hv => absurd (look_none.symm.trans hv) (fun e => by cases e),fun t v _ hv => (by cases hv),hin.gr,fun d t es c es' c' h1 => absurd (look_none.symm.trans h1) (fun e => by cases e)⟩
     obtain ⟨C',s2,t2,o2,b2,w2,l2⟩ := res_sim hok st0
     obtain ⟨p1,p2,p3⟩ := pPack_vr (d := d) s2.hi.fzx l2 pRes_firm
     refine ⟨C',(aRes rs h).2,packed (aRes rs h).1, ?_,⟨s2.hi,t2.ext,t2.ids,Nat.le_refl _,fun b id hb => by rw [b2] at hb; exact .inl hb,fun id p ho => .inl (hin.owc id p (by rw [w2] at ho; exact ho)),p1,p2,(fun e => absurd (p3.symm.trans e) (by decide)),fun F l => t2.lp F (fun id hid => Nat.le_trans l.n0 hid) l⟩⟩
     unfold libA
     rw [paArgs_aa has hin.args]
     simp only [hrs,hok]
    ·cases hq
   ·cases hq
  ·cases hq
where aRes_ext : ∀ {rs : List KR} {h : AHeap}, AExt h (aRes rs h).2
 | [],h => AExt.refl _
 | .p v :: r,h => aRes_ext (rs := r)
 | .l cs :: r,h => (AExt.alloc h _).trans (aRes_ext (rs := r))
 | .e ty :: r,h => (AExt.alloc h _).trans (aRes_ext (rs := r))
 | .ll css :: r,h => (aIn_aext.trans (AExt.alloc _ _)).trans (aRes_ext (rs := r))
end
end Go.Pur
set_option linter.unusedVariables false
set_option linter.unusedSimpArgs false
namespace Go.Pur
open Go.Abs
def fq_move (P : Program) (Y : Pol) (f : FuncId) (x : Operand) (σ : St) : Option PV := pev Y f σ x
def fq_pick (P : Program) (Y : Pol) (f : FuncId) (c : Operand) (x : Operand) (y : Operand) (σ : St) : Option PV := match pev Y f σ c with
  | some (.v (.bool true)) => match evSafe y with
   | true => pev Y f σ x
   | false => none
  | some (.v (.bool false)) => match evSafe x with
   | true => pev Y f σ y
   | false => none
  | _ => none
def fq_nilCheck (P : Program) (Y : Pol) (f : FuncId) (x : Operand) (σ : St) : Option PV := match pev Y f σ x with
  | some (.p b o) => some (.p b o)
  | some (.r k cs) => some (.r k cs)
  | some (.f g as1 bs) => some (.f g as1 bs)
  | _ => none
def fq_binOp (P : Program) (Y : Pol) (f : FuncId) (op : BinOp) (t : TypeId) (x : Operand) (y : Operand) (σ : St) : Option PV := match pev Y f σ x,pev Y f σ y with
  | some a,some b => pbin P op t x y a b
  | _,_ => none
def fq_unOp (P : Program) (Y : Pol) (f : FuncId) (op : UnOp) (x : Operand) (σ : St) : Option PV := match pev Y f σ x with
  | some (.v a) => match prunP P (Op.unary op a) with
   | some r => pvOf r
   | none => none
  | _ => none
def fq_convert (P : Program) (Y : Pol) (f : FuncId) (src : TypeId) (dst : TypeId) (x : Operand) (σ : St) : Option PV := match pev Y f σ x with
  | some (.v a) => match prunP P (convert src dst a) with
   | some r => pvOf r
   | none => none
  | _ => none
def fq_slice (P : Program) (Y : Pol) (f : FuncId) (t : TypeId) (x : Operand) (lo : Option Operand) (hi : Option Operand) (mx : Option Operand) (σ : St) : Option PV := match pev Y f σ x,optPlain Y f σ lo,optPlain Y f σ hi,optPlain Y f σ mx with
  | some v,some l,some h,some m => pqSlice P t v l h m
  | _,_,_,_ => none
def fq_fieldAddr (P : Program) (Y : Pol) (f : FuncId) (s : TypeId) (x : Operand) (fd : Nat) (σ : St) : Option PV := match pev Y f σ x with
  | some v => fldAddr P s v fd
  | none => none
def fq_field (P : Program) (Y : Pol) (f : FuncId) (s : TypeId) (x : Operand) (fd : Nat) (σ : St) : Option PV := match pev Y f σ x with
  | some v => pfield P s v fd
  | none => none
def fq_indexAddr (P : Program) (Y : Pol) (f : FuncId) (t : TypeId) (x : Operand) (ix : Operand) (σ : St) : Option PV := match pev Y f σ x,pev Y f σ ix with
  | some v,some (.v i) => idxAddr P t v i
  | _,_ => none
def fq_index (P : Program) (Y : Pol) (f : FuncId) (t : TypeId) (x : Operand) (ix : Operand) (σ : St) : Option PV := match pev Y f σ x,pev Y f σ ix with
  | some v,some (.v i) => pqIndex P t v i
  | _,_ => none
def fq_extract (P : Program) (Y : Pol) (f : FuncId) (x : Operand) (ix : Nat) (σ : St) : Option PV := match pev Y f σ x with
  | some (.t cs) => cs[ix]?
  | _ => none
def fq_len (P : Program) (Y : Pol) (f : FuncId) (args : Array Operand) (argTypes : Array TypeId) (σ : St) : Option PV := match args.toList,argTypes[0]? with
  | [x],some t => match pev Y f σ x with
   | some v => plen P t v
   | none => none
  | _,_ => none
def fq_max (P : Program) (Y : Pol) (f : FuncId) (args : Array Operand) (argTypes : Array TypeId) (σ : St) : Option PV := match pevs Y f σ args.toList with
  | some vs => match pplains vs with
   | some xs => match prunP P (Builtin.max_ argTypes 0 xs.toArray) with
    | some r => pvOf r
    | none => none
   | none => none
  | none => none
def fq_min (P : Program) (Y : Pol) (f : FuncId) (args : Array Operand) (argTypes : Array TypeId) (σ : St) : Option PV := match pevs Y f σ args.toList with
  | some vs => match pplains vs with
   | some xs => match prunP P (Builtin.min_ argTypes 0 xs.toArray) with
    | some r => pvOf r
    | none => none
   | none => none
  | none => none
def fq_call (P : Program) (Y : Pol) (f : FuncId) (b : Builtin) (args : Array Operand) (argTypes : Array TypeId) (σ : St) : Option PV :=
 match b with
 | .len => fq_len P Y f args argTypes σ
 | .max => fq_max P Y f args argTypes σ
 | .min => fq_min P Y f args argTypes σ
 | _ => none
def fq (P : Program) (Y : Pol) (f : FuncId) (op : Op) (σ : St) : Option PV :=
 match op with
 | .move x => fq_move P Y f x σ
 | .assign x => fq_move P Y f x σ
 | .pick c x y => fq_pick P Y f c x y σ
 | .nilCheck x => fq_nilCheck P Y f x σ
 | .binOp op t x y _ => fq_binOp P Y f op t x y σ
 | .unOp op _ x => fq_unOp P Y f op x σ
 | .convert src dst x => fq_convert P Y f src dst x σ
 | .slice t x lo hi mx => fq_slice P Y f t x lo hi mx σ
 | .fieldAddr s x fd => fq_fieldAddr P Y f s x fd σ
 | .field s x fd => fq_field P Y f s x fd σ
 | .indexAddr t x ix => fq_indexAddr P Y f t x ix σ
 | .index t x ix => fq_index P Y f t x ix σ
 | .extract x ix => fq_extract P Y f x ix σ
 | .call c => match c.callee with
  | .builtin b => fq_call P Y f b c.args c.argTypes σ
  | _ => none
 | _ => none
def fo_load (P : Program) (Y : Pol) (f : FuncId) (call : PCallF) (draw : Dr) (t : TypeId) (x : Operand) (σ : St) : Option (PV × St) := match pev Y f σ x with
  | some v => match mayLoad draw v || freeDr draw with
   | true => pload P t v σ
   | false => none
  | none => none
def fo_build (P : Program) (Y : Pol) (f : FuncId) (call : PCallF) (draw : Dr) (t : TypeId) (parts : Array (Nat × Operand)) (σ : St) : Option (PV × St) := match pevParts Y f σ parts.toList,zeroOf P t with
  | some (is,vs),some z => match hows Y f (Y.part f) vs σ with
   | some (vs0,σ0) => match stors Y f [] vs0 σ0,pvCells z,partsOf P t with
    | some (vs',σ'),some zc,some pt => match pfill (partAt pt) (zipParts is vs') zc with
     | some cs => some (.a cs,σ')
     | none => none
    | _,_,_ => none
   | none => none
  | _,_ => none
def fo_makeInterface (P : Program) (Y : Pol) (f : FuncId) (call : PCallF) (draw : Dr) (t : TypeId) (x : Operand) (σ : St) : Option (PV × St) := match pev Y f σ x,P.underlying t with
  | some _,some (.interface _) => none
  | some v,some _ => match stor Y f v σ with
   | some (v',σ',_) => some (.i t v',σ')
   | none => none
  | _,_ => none
def fo_makeFunc (P : Program) (Y : Pol) (f : FuncId) (call : PCallF) (draw : Dr) (fn : Fn) (first : Array Operand) (captured : Array Operand) (σ : St) : Option (PV × St) := match fn,pevs Y f σ first.toList,pevs Y f σ captured.toList with
  | .func g,some as1,some bs => match stors Y f [] (as1 ++ bs) σ with
   | some (l,σ') => some (.f g (l.take as1.length) (l.drop as1.length),σ')
   | none => none
  | _,_,_ => none
def fo_box (P : Program) (Y : Pol) (f : FuncId) (call : PCallF) (draw : Dr) (e : TypeId) (x : Operand) (σ : St) : Option (PV × St) := match pev Y f σ x with
  | some v => match moved Y f v σ with
   | some (v',σ') => match refsTo σ'.hp.length v' with
    | true => some (pnewBlk (pcells v') σ')
    | false => none
   | none => none
  | none => none
def fo_alloc (P : Program) (Y : Pol) (f : FuncId) (call : PCallF) (draw : Dr) (e : TypeId) (σ : St) : Option (PV × St) := match zeroOf P e with
  | some z => match pvCells z with
   | some zc => some (pnewBlk zc σ)
   | none => none
  | none => none
def fo_buildSlice (P : Program) (Y : Pol) (f : FuncId) (call : PCallF) (draw : Dr) (t : TypeId) (n : Nat) (parts : Array (Nat × Operand)) (σ : St) : Option (PV × St) := match pevParts Y f σ parts.toList,shapeOf P t with
  | some (is,vs),some (.slice e sz) => match zeroOf P e,stors Y f [] vs σ with
   | some z,some (vs',σ') => match Nat.ble (n * (sz + 1)) limit24 && Nat.beq (vcells z).length sz,pvCells z with
    | true,some zc => match pfill (fun i => some (i * sz,sz)) (zipParts is vs') (reps (zc.map ownFz) n) with
     | some cs => match cs.all cellOK with
      | true => some (.l .fz .full n cs,σ')
      | false => none
     | none => none
    | _,_ => none
   | _,_ => none
  | _,_ => none
def fo_makeSlice (P : Program) (Y : Pol) (f : FuncId) (call : PCallF) (draw : Dr) (t : TypeId) (l : Operand) (c : Operand) (σ : St) : Option (PV × St) := match pev Y f σ l,pev Y f σ c,shapeOf P t with
  | some (.v (.int _ (.ofNat l))),some (.v (.int _ (.ofNat c))),some (.slice e sz) => match zeroOf P e,byOf P e with
   | some z,some by_ => match Nat.ble l c && Nat.ble (c * (by_ + sz + 1)) limit && Nat.beq (vcells z).length sz,pvCells z with
    | true,some zc => some (.s σ.hp.length 0 l c,{ σ with hp := σ.hp ++ [some (reps zc c)] })
    | _,_ => none
   | _,_ => none
  | _,_,_ => none
def fo_store (P : Program) (Y : Pol) (f : FuncId) (call : PCallF) (draw : Dr) (t : TypeId) (x : Operand) (y : Operand) (σ : St) : Option (PV × St) := match pev Y f σ x,pev Y f σ y,szOf P t with
  | some (.p b off),some v,some n => match moved Y f v σ with
   | some (v',σ') => match Nat.beq (pcells v').length n && refsTo b v' && (pcells v').all one && (mayTurn draw || mayStore Y f σ b draw) with
    | true => match pput b off (pcells v') σ' with
     | some σ'' => some (.dead,σ'')
     | none => none
    | false => none
   | none => none
  | _,_,_ => none
def fo_append (P : Program) (Y : Pol) (f : FuncId) (call : PCallF) (draw : Dr) (args : Array Operand) (argTypes : Array TypeId) (σ : St) : Option (PV × St) := match pevs Y f σ args.toList,argTypes.toList with
  | some [s,x],[t,tx] => match shapeOf P t,psrcLen x,srcFits P tx x with
   | some (.slice e sz),some n,true => match zeroOf P e,byOf P e,psrcLen s with
    | some z,some by_,some m => match Nat.beq n 0 with
     | true => match isList s with
      | true => some (s,σ)
      | false => none
     | false => match psrc sz n x σ with
      | some new => match Nat.ble ((m + n) * (by_ + sz + 1)) limit && Nat.beq (vcells z).length sz && (!(elder Y f s) || mayTurn draw) with
       | true => pgrow Y f sz s n new σ
       | false => none
      | none => none
    | _,_,_ => none
   | _,_,_ => none
  | _,_ => none
def fo_copy (P : Program) (Y : Pol) (f : FuncId) (call : PCallF) (draw : Dr) (args : Array Operand) (argTypes : Array TypeId) (σ : St) : Option (PV × St) := match pevs Y f σ args.toList,argTypes.toList with
  | some [d,x],[t,tx] => match shapeOf P t,psrcLen x,srcFits P tx x,d with
   | some (.slice e sz),some n,true,.s b off m cap => match Nat.beq (Nat.min n m) 0 with
    | true => some (.v (.int .i64 0),σ)
    | false => match psrc sz (Nat.min n m) x σ with
     | some cs => match pput b off cs σ with
      | some σ' => match mayTurn draw with
       | true => some (.v (.int .i64 (Nat.min n m : Nat)),σ')
       | false => none
      | none => none
     | none => none
   | _,_,_,_ => none
  | _,_ => none
def fo_callv (P : Program) (Y : Pol) (f : FuncId) (call : PCallF) (draw : Dr) (fo : Operand) (args : Array Operand) (σ : St) : Option (PV × St) := pcallOp Y f call draw fo args.toList σ
def fo_range (P : Program) (Y : Pol) (f : FuncId) (call : PCallF) (draw : Dr) (t : TypeId) (x : Operand) (σ : St) : Option (PV × St) := match pev Y f σ x,P.underlying t with
  | some (.v (.string s)),some .string => some (.it s 0,σ)
  | _,_ => none
def fo_next (P : Program) (Y : Pol) (f : FuncId) (call : PCallF) (draw : Dr) (x : Operand) (isStr : Bool) (σ : St) : Option (PV × St) := match x,isStr with
  | .tmp t,true => match look Y f σ t with
   | some (.it s pos) => match Nat.blt pos s.size with
    | true => match mayTurn draw with
     | true => some (.t [.v (.bool true),.v (goInt pos),.v (.int .i32 (Utf8.decode s pos).1)],setPl Y f (.it s (pos + (Utf8.decode s pos).2)) σ (.tmp t))
     | false => none
    | false => some (.t [.v (.bool false)],σ)
   | _ => none
  | _,_ => none
def fo_convert (P : Program) (Y : Pol) (f : FuncId) (call : PCallF) (draw : Dr) (src : TypeId) (dst : TypeId) (x : Operand) (σ : St) : Option (PV × St) := match fq P Y f (.convert src dst x) σ with
  | some v => some (v,σ)
  | none => match pbytes P Y f draw src dst x σ with
   | some v => some (v,σ)
   | none => none
def fo_quiet (P : Program) (Y : Pol) (f : FuncId) (op : Op) (σ : St) : Option (PV × St) :=
 match fq P Y f op σ with
 | some v => some (v,σ)
 | none => none
def fo_call (P : Program) (Y : Pol) (f : FuncId) (call : PCallF) (draw : Dr) (c : Call) (σ : St) : Option (PV × St) :=
 match c.callee with
 | .value fo => fo_callv P Y f call draw fo c.args σ
 | .builtin b => match b with
  | .append => fo_append P Y f call draw c.args c.argTypes σ
  | .copy => fo_copy P Y f call draw c.args c.argTypes σ
  | .delete => poper P Y f call draw (.call c) σ
  | .clear => poper P Y f call draw (.call c) σ
  | .len => match fq P Y f (.call c) σ with
   | some v => some (v,σ)
   | none => poper P Y f call draw (.call c) σ
  | _ => fo_quiet P Y f (.call c) σ
 | _ => none
def fo (P : Program) (Y : Pol) (f : FuncId) (call : PCallF) (draw : Dr) (op : Op) (σ : St) : Option (PV × St) :=
 match op with
 | .makeMap t r => poper P Y f call draw (.makeMap t r) σ
 | .mapUpdate t m k x => poper P Y f call draw (.mapUpdate t m k x) σ
 | .insert t m k x => poper P Y f call draw (.insert t m k x) σ
 | .lookup t m k ok => poper P Y f call draw (.lookup t m k ok) σ
 | .mapEntry t m k => poper P Y f call draw (.mapEntry t m k) σ
 | .entryStore t m s x => poper P Y f call draw (.entryStore t m s x) σ
 | .load t x => fo_load P Y f call draw t x σ
 | .build t parts => fo_build P Y f call draw t parts σ
 | .makeInterface t x => fo_makeInterface P Y f call draw t x σ
 | .makeFunc fn first captured => fo_makeFunc P Y f call draw fn first captured σ
 | .box e x => fo_box P Y f call draw e x σ
 | .alloc e => fo_alloc P Y f call draw e σ
 | .buildSlice t n parts => fo_buildSlice P Y f call draw t n parts σ
 | .makeSlice t l c => fo_makeSlice P Y f call draw t l c σ
 | .store t x y => fo_store P Y f call draw t x y σ
 | .range t x => fo_range P Y f call draw t x σ
 | .next x isStr => fo_next P Y f call draw x isStr σ
 | .convert src dst x => fo_convert P Y f call draw src dst x σ
 | .call c => fo_call P Y f call draw c σ
 | op => fo_quiet P Y f op σ
end Go.Pur
namespace Go.Pur
open Go.Abs
section
variable {P : Program} {Y : Pol} {f : FuncId} {nt : Nat} {O : PCallF}
def kO (code : PCodeF) : List Fm → St → Option (AExit × St)
 | [],σ => some (.normal,σ)
 | .c c :: k,σ => match code c σ with
  | some (.normal,σ') => kO code k σ'
  | some (.exit j,σ') => kx j k σ'
  | r => r
 | .blk _ :: k,σ => kO code k σ
 | .lp b :: k,σ => match code (.loop b) σ with
  | some (.normal,σ') => kO code k σ'
  | some (.exit j,σ') => kx j k σ'
  | r => r
where kx (j : Nat) : List Fm → St → Option (AExit × St)
 | [],σ => some (.exit j,σ)
 | .c _ :: k,σ => kx j k σ
 | .blk id :: k,σ => match Nat.beq j id with
  | true => kO code k σ
  | false => kx j k σ
 | .lp _ :: k,σ => kx j k σ
mutual
theorem kO_EK {code : PCodeF} (hc : ∀ x σ r,code x σ = some r → EC P Y f nt x σ = some r) : ∀ {k : List Fm} {σ : St} {r : AExit × St},kO code k σ = some r → EK P Y f nt k σ = some r
 | [],σ,r,h => by simpa only [kO,EK] using h
 | .c c :: k,σ,r,h => by
  simp only [kO] at h
  simp only [EK]
  split at h
  ·rename_i σ' h1; rw [hc _ _ _ h1]; exact kO_EK hc h
  ·rename_i j σ' h1; rw [hc _ _ _ h1]; exact kx_EK hc h
  ·rename_i h1 h2
   rw [hc _ _ _ h]
   obtain ⟨x,σ'⟩ := r
   cases x with
   | normal => exact (h1 _ h).elim
   | exit j => exact (h2 _ _ h).elim
   | _ => rfl
 | .blk id :: k,σ,r,h => by
  simp only [kO] at h
  simp only [EK]
  exact kO_EK hc h
 | .lp b :: k,σ,r,h => by
  simp only [kO] at h
  simp only [EK]
  split at h
  ·rename_i σ' h1; rw [hc _ _ _ h1]; exact kO_EK hc h
  ·rename_i j σ' h1; rw [hc _ _ _ h1]; exact kx_EK hc h
  ·rename_i h1 h2
   rw [hc _ _ _ h]
   obtain ⟨x,σ'⟩ := r
   cases x with
   | normal => exact (h1 _ h).elim
   | exit j => exact (h2 _ _ h).elim
   | _ => rfl
theorem kx_EK {code : PCodeF} (hc : ∀ x σ r,code x σ = some r → EC P Y f nt x σ = some r) {j : Nat} : ∀ {k : List Fm} {σ : St} {r : AExit × St},kO.kx code j k σ = some r → EK.ex P Y f nt j k σ = some r
 | [],σ,r,h => by simpa only [kO.kx,EK.ex] using h
 | .c _ :: k,σ,r,h => by
  simp only [kO.kx] at h
  simp only [EK.ex]
  exact kx_EK hc h
 | .blk id :: k,σ,r,h => by
  simp only [kO.kx] at h
  simp only [EK.ex]
  split at h
  ·rename_i e; rw [e]; exact kO_EK hc h
  ·rename_i e; rw [e]; exact kx_EK hc h
 | .lp _ :: k,σ,r,h => by
  simp only [kO.kx] at h
  simp only [EK.ex]
  exact kx_EK hc h
end
end
section
variable {P : Program} {t : TypeId} {x y : Operand} {k : IntKind}
theorem abinS_str {op : BinOp} {a b : ByteArray} {r : Value} (h1 : prun P (do eqGuard op t x y (.string a) (.string b); binOp op t (.string a) (.string b)) = some r) (h2 : plain r = true) : abin P op t x y (.string a) (.string b) = some r := by
 have h3 : abinS P op t x y (.string a) (.string b) = prunP P (do eqGuard op t x y (.string a) (.string b); binOp op t (.string a) (.string b)) := rfl
 have h0 : intFast op (.string a) (.string b) = none := rfl
 unfold abin
 rw [h0]
 simp only []
 rw [h3]
 unfold prunP
 rw [h1]
 simp only [h2]
theorem abin_rem {m n : Int} (hn : n ≠ 0) : abin P .rem t x y (.int k m) (.int k n) = some (.int k (m.tmod n)) :=
 abinS_of (fast_none fun _ _ _ => rfl) (by simp [eqGuard,binOp,Op.intDiv,hn]; rfl) rfl
theorem abin_quo {m n : Int} (hn : n ≠ 0) : abin P .quo t x y (.int k m) (.int k n) = some (.int k (k.wrap (m.tdiv n))) :=
 abinS_of (fast_none fun _ _ _ => rfl) (by simp [eqGuard,binOp,Op.intDiv,hn]; rfl) rfl
theorem bytes_beq {a b : ByteArray} : (a.toList == b.toList) = decide (a = b) := by
 rw [Bool.eq_iff_iff]
 simp only [beq_iff_eq,decide_eq_true_eq]
 refine ⟨fun h => ?_,fun h => by rw [h]⟩
 rw [ByteArray.toList_eq,ByteArray.toList_eq] at h
 obtain ⟨⟨l⟩⟩ := a
 obtain ⟨⟨m⟩⟩ := b
 simp at h
 rw [h]
theorem abin_seql {a b : ByteArray} : abin P .eql t x y (.string a) (.string b) = some (.bool (decide (a = b))) :=
 abinS_str (by simp [eqGuard,binOp,Op.stringOp,bytes_beq]; rfl) rfl
theorem abin_sneq {a b : ByteArray} : abin P .neq t x y (.string a) (.string b) = some (.bool (!decide (a = b))) :=
 abinS_str (by simp [eqGuard,binOp,Op.stringOp,bytes_beq]; rfl) rfl
end
end Go.Pur
set_option linter.unusedSimpArgs false
set_option linter.unusedVariables false
namespace Go.Pur
open Go.Abs
set_option linter.unusedSimpArgs false
section
variable {P : Program} {t : TypeId}
theorem prun_bnd {α β : Type} (x : Sem α) (f : α → Sem β) : prun P (x >>= f) = match prun P x with
  | some a => prun P (f a)
  | none => none := by
 show prun P (x.bind f) = _
 induction x with
 | pure a => rfl
 | program k ih => exact ih P
 | mark _ k ih => exact ih
 | _ => rfl
theorem prun_pure {α : Type} (a : α) : prun P (pure a) = some a := rfl
theorem prun_map {α β : Type} (g : α → β) (x : Sem α) : prun P (g <$> x) = (prun P x).map g := by
 show prun P (x.bind fun a => pure (g a)) = _
 rw [show x.bind (fun a => pure (g a)) = (x >>= fun a => pure (g a)) from rfl,prun_bnd]
 cases prun P x <;> rfl
theorem str_index (ht : P.underlying t = some .string) {s : ByteArray} {k : IntKind} {i : Nat} (h : i < s.size) : prunP P (Instr.index t (.string s) (.int k i)) = some (.int .u8 (s[i]'h).toNat) := by
 have : s[i]? = some (s[i]'h) := by simp [h]
 unfold prunP Instr.index
 simp [prun_bnd,prun_pure,prun_und ht,asIntOf,this,plain]
theorem prun_bound {k : IntKind} {a y : Nat} {c : BoundsCode} (h : a ≤ y) : prun P (Instr.sliceBound (.int k a) y c) = some a := by
 have h' : (a : Int) ≤ y := by omega
 unfold Instr.sliceBound
 simp [prun_bnd,prun_pure,asIntOf,h,h']
theorem str_from (ht : P.underlying t = some .string) {s : ByteArray} {k : IntKind} {a : Nat} (h1 : a ≤ s.size) : prunP P (Instr.slice t (.string s) (some (.int k a)) none none) = some (.string (s.extract a s.size)) := by
 unfold prunP Instr.slice Instr.sliceBounds
 simp [prun_bnd,prun_pure,prun_map,prun_und ht,prun_bound h1,plain]
end
end Go.Pur
set_option linter.unusedSimpArgs false
set_option linter.unusedVariables false
namespace Go.Pur
open Go.Abs
abbrev sv (s : ByteArray) : PV := .v (.string s)
abbrev bs (l : List UInt8) : ByteArray := ⟨l.toArray⟩
theorem bs_size {l : List UInt8} : (bs l).size = l.length := by simp [ByteArray.size]
theorem bs_get {l : List UInt8} {i : Nat} (h : i < (bs l).size) : (bs l)[i]'h = l[i]'(by rwa [bs_size] at h) := rfl
theorem bleF {a b : Nat} (h : b < a) : Nat.ble a b = false := by rw [nble]; exact decide_eq_false (by omega)
end Go.Pur
set_option linter.unusedSimpArgs false
set_option linter.unusedVariables false
set_option linter.unusedSectionVars false
namespace Go.Pur
open Go.Abs
theorem bind_ok {α β : Type} {x : Option α} {f : α → Option β} {r : β} (h : x.bind f = some r) : ∃ a,x = some a ∧ f a = some r := by
 cases x with
 | none => cases h
 | some a => exact ⟨a,rfl,h⟩
theorem bindT {α β : Type} {a : α} {f : α → Option β} {r : β} (h : (some a).bind f = some r) : ∃ x,a = x ∧ f x = some r := ⟨a,rfl,h⟩
theorem inj_ok {α : Type} {a b : α} (h : some a = some b) : a = b := Option.some.inj h
abbrev kv (k : IntKind) (z : Int) : PV := .v (.int k z)
def lv (p : Ck × List Int) : PV := .l .fz p.1 p.2.length (p.2.map iv)
def tv (l : List UInt8) : PV := .v (.string (bs l))
def rows (l : List (Int × Int)) : List PV := l.flatMap fun p => [iv p.1,iv p.2]
theorem rows_len : ∀ {l : List (Int × Int)},(rows l).length = l.length * 2
 | [] => rfl
 | p :: l => by
  have := rows_len (l := l)
  simp only [rows,List.flatMap_cons,List.length_append,List.length_cons,List.length_nil] at this ⊢
  omega
theorem rows_nil : rows [] = [] := rfl
theorem rows_cons {p : Int × Int} {l : List (Int × Int)} : rows (p :: l) = iv p.1 :: iv p.2 :: rows l := rfl
section
variable {α : Type} {l l' r x : List α} {v y : α} {i z : Int} {n k : Nat} {f : α → PV}
def gI (l : List α) (i : Int) : Option α := match i with
 | .ofNat k => l[k]?
 | .negSucc _ => none
theorem gI_ok (hn : l.length = n) (h : gI l i = some y) : (∀ k,intIn n (.int k i) = some i.toNat) ∧ i.toNat < n ∧ Nat.ble (i.toNat + 1) n = true ∧ l[i.toNat]? = some y ∧ i = (i.toNat : Int) := by
 cases i with
 | negSucc k => cases h
 | ofNat k =>
  have h1 : k < l.length := (List.getElem?_eq_some_iff.1 h).1
  rw [hn] at h1
  exact ⟨fun _ => intIn_nat h1,h1,ble_true h1,h,rfl⟩
def gS (s : List UInt8) (i : Int) : Option Int := match i with
 | .ofNat k => match s[k]? with
  | some c => some (c.toNat : Int)
  | none => none
 | .negSucc _ => none
theorem gS_ok {P : Program} {t : TypeId} {s : List UInt8} {c : Int} {k : IntKind} (ht : P.underlying t = some .string) (hs : shapeOf P t = some .string) (h : gS s i = some c) : pqIndex P t (.v (.string (bs s))) (.int k i) = some (.v (.int .u8 c)) ∧ 0 ≤ c ∧ c < 256 := by
 cases i with
 | negSucc k => cases h
 | ofNat j =>
  unfold gS at h
  cases e : s[j]? with
  | none => simp [e] at h
  | some b =>
   simp [e] at h
   subst h
   have hj : j < (bs s).size := by rw [bs_size]; exact (List.getElem?_eq_some_iff.1 e).1
   have h1 := str_index (P := P) (t := t) ht (s := bs s) (k := k) (i := j) hj
   have h2 : (bs s)[j]'hj = b := by rw [bs_get]; exact (List.getElem?_eq_some_iff.1 e).2
   rw [h2] at h1
   refine ⟨?_,by omega,by have := b.toNat_lt; omega⟩
   unfold pqIndex
   rw [hs]
   show (match prunP P (Instr.index t (.string (bs s)) (.int k (j : Int))) with | some r => pvOf r | none => none) = _
   rw [h1]
   rfl
end
section
variable {α : Type} {l r x : List α} {n k : Nat} {f : α → PV}
end
def vlOf : Ck → Vl
 | .full => .fz
 | _ => .own
theorem bs_eq {l m : List UInt8} : (bs l = bs m) ↔ l = m := ⟨fun h => by simpa using congrArg (fun b : ByteArray => b.data.toList) h,fun h => by rw [h]⟩
def shlO (k : IntKind) (m n : Int) : Option Int := match n with
 | .ofNat j => some (shlI k m j)
 | .negSucc _ => none
theorem shlO_ok {k : IntKind} {m n z : Int} (h : shlO k m n = some z) : 0 ≤ n ∧ shlI k m n = z := by
 cases n with
 | negSucc j => cases h
 | ofNat j => exact ⟨Int.natCast_nonneg j,Option.some.inj h⟩
theorem ble_add {n a b : Nat} : Nat.ble (n + a) (n + b) = decide (a ≤ b) := by rw [nble]; congr 1; simp
theorem ble_add0 {n b : Nat} : Nat.ble n (n + b) = true := ble_true (by omega)
theorem beq_add {n a b : Nat} : Nat.beq (n + a) (n + b) = decide (a = b) := by rw [nbeq]; congr 1; simp
theorem beq_add0 {n b : Nat} : Nat.beq n (n + b) = decide (b = 0) := by rw [nbeq]; congr 1; simp
theorem beq_add1 {n b : Nat} : Nat.beq (n + b) n = decide (b = 0) := by rw [nbeq]; congr 1; simp
theorem ble_same {n : Nat} : Nat.ble n n = true := ble_true (Nat.le_refl _)
theorem ak_true : ak true = .bor := rfl
theorem ak_false : ak false = .fz := rfl
theorem argv_s {Y : Pol} {f : FuncId} {b o n c : Nat} {σ : St} : argv Y f (.s b o n c) σ = some (.s b o n c,σ,none) := rfl
theorem intIn2_0 : intIn 2 (.int .i64 0) = some 0 := rfl
theorem intIn2_1 : intIn 2 (.int .i64 1) = some 1 := rfl
theorem ble12 {n : Nat} : Nat.ble 1 (n + 1 + 1) = true := ble_true (by omega)
theorem ble22 {n : Nat} : Nat.ble 2 (n + 1 + 1) = true := ble_true (by omega)
theorem max_int {P : Program} {ts : Array TypeId} {t : TypeId} {a b : Int} : prunP P (Builtin.max_ ts t #[.int .i64 a,.int .i64 b]) = some (.int .i64 (max a b)) := by
 unfold prunP Builtin.max_
 simp [Builtin.max2,prun_bnd,prun_pure]
 rw [show (if a < b then b else a) = max a b by rw [Int.max_def]; split <;> split <;> omega]
 rfl
theorem min_int {P : Program} {ts : Array TypeId} {t : TypeId} {a b : Int} : prunP P (Builtin.min_ ts t #[.int .i64 a,.int .i64 b]) = some (.int .i64 (min a b)) := by
 unfold prunP Builtin.min_
 simp [Builtin.min2,prun_bnd,prun_pure]
 rw [show (if b < a then b else a) = min a b by rw [Int.min_def]; split <;> split <;> omega]
 rfl
def gA (s : List UInt8) (k : Nat) : Option Nat := match s[k]? with
 | some c => match Nat.blt c.toNat 128 with
  | true => some c.toNat
  | false => none
 | none => none
theorem gA_ok {s : List UInt8} {k c : Nat} (h : gA s k = some c) : Utf8.decode (bs s) k = (c,1) := by
 unfold gA at h
 cases e : s[k]? with
 | none => simp [e] at h
 | some b =>
  cases hb : Nat.blt b.toNat 128 with
  | false => simp [e,hb] at h
  | true =>
   simp [e,hb] at h
   subst h
   have h1 : b.toNat < 128 := Nat.le_of_ble_eq_true hb
   have h2 : (bs s).get! k = b := by
    obtain ⟨hk,hk2⟩ := List.getElem?_eq_some_iff.1 e
    subst hk2
    simp [ByteArray.get!,hk]
   unfold Utf8.decode
   simp [h2,h1]
def wok (base : Nat) (w : Option Nat) : Prop := w = none ∨ ∃ k,w = some k ∧ base ≤ k
theorem wok_none {base : Nat} : wok base none := .inl rfl
theorem wok_low {base b : Nat} {w : Option Nat} (hw : wok base w) (hb : base ≤ b) : wok base (lowB w b) := by
 rcases hw with rfl | ⟨k,rfl,hk⟩
 ·exact .inr ⟨b,rfl,hb⟩
 ·exact .inr ⟨_,rfl,Nat.le_min.2 ⟨hk,hb⟩⟩
theorem wok_low_iff {base b : Nat} {w : Option Nat} : wok base (lowB w b) ↔ wok base w ∧ base ≤ b := by
 refine ⟨fun h => ?_,fun h => wok_low h.1 h.2⟩
 cases w with
 | none =>
  rcases h with h | ⟨k,h,hk⟩
  ·cases h
  ·cases h; exact ⟨.inl rfl,hk⟩
 | some a =>
  rcases h with h | ⟨k,h,hk⟩
  ·cases h
  ·cases h
   exact ⟨.inr ⟨a,rfl,(Nat.le_min.1 hk).1⟩,(Nat.le_min.1 hk).2⟩
theorem lowOf_none {base : Nat} : lowOf base none = none := rfl
theorem lowOf_wok {base : Nat} {w : Option Nat} (hw : wok base w) : lowOf base w = none := by
 rcases hw with rfl | ⟨k,rfl,hk⟩
 ·rfl
 ·show (match Nat.blt k base with | true => some k | false => none) = none
  rw [show Nat.blt k base = false from by rw [Nat.blt,nble]; exact decide_eq_false (by omega)]
section
variable {P : Program} {Y : Pol} {f : FuncId} {nt : Nat} {k : List Fm}
theorem loopS {V U ρ : Type} {S : (U → Option ρ) → Nat → V → Option ρ} {K : U → Option ρ} {r : ρ} {R : Option (PV × List (Option (List PV)) × Option Nat)} {g : FuncId} {rs : List ResultVar} {tys : List TypeId} {base id : Nat} {b : Code} {σ0 : St}
  (Fact : V → St → Prop) (FactO : U → St → Prop) {n0 : Nat} {v0 : V} (hz : ∀ v,S K 0 v = none) (h : S K n0 v0 = some r) (h0 : Fact v0 σ0)
  (hc : ∀ o σ,FactO o σ → K o = some r → ER P Y g rs tys base (EK P Y f nt k σ) = R)
  (hs : ∀ k' n v σ,Fact v σ → S K (n + 1) v = some r → (∀ v' σ',Fact v' σ' → S K n v' = some r → ER P Y g rs tys base (EK P Y f nt (.lp b :: .blk id :: k') σ') = R) →
   (∀ o σ',FactO o σ' → K o = some r → ER P Y g rs tys base (EK P Y f nt k' σ') = R) → ER P Y g rs tys base (EK P Y f nt (.c b :: .lp b :: .blk id :: k') σ) = R) :
  ER P Y g rs tys base (EK P Y f nt (.lp b :: .blk id :: k) σ0) = R := by
 induction n0 generalizing v0 σ0 with
 | zero => rw [hz] at h; cases h
 | succ n ih =>
  rw [EK_lp]
  exact hs k n v0 σ0 h0 h (fun v' σ' hf hh => ih hh hf) hc
end
end Go.Pur
set_option linter.unusedSimpArgs false
set_option linter.unusedVariables false
namespace Go.Pur
open Go.Abs
section
variable {P : Program} {t e : TypeId} {d n : Nat} {xs ys : Array Value} {x0 x1 y0 y1 v w : Value} {p q : Bool} {a b : Int} {x y : Operand}
end
end Go.Pur
set_option linter.unusedSimpArgs false
set_option linter.unusedVariables false
set_option linter.unusedSectionVars false
namespace Go.Pur
open Go.Abs
abbrev Mp (K V : Type) := List (K × V × Nat)
section
variable {K V : Type} [DecidableEq K] {P : Program}
def mGet (k : K) : Mp K V → Option V
 | [] => none
 | e :: l => match decide (e.1 = k) with
  | true => some e.2.1
  | false => mGet k l
def mSet (c : Nat) (k : K) (v : V) : Mp K V → Mp K V
 | [] => [(k,v,c)]
 | e :: l => match decide (e.1 = k) with
  | true => (k,v,e.2.2) :: l
  | false => e :: mSet c k v l
def mClk (c : Nat) (k : K) : Mp K V → Nat
 | [] => c + 1
 | e :: l => match decide (e.1 = k) with
  | true => c
  | false => mClk c k l
def mGetD (d : V) (k : K) (l : Mp K V) : V := (mGet k l).getD d
def mHas (k : K) (l : Mp K V) : Bool := (mGet k l).isSome
def mIdx (k : K) : Mp K V → Nat → Option (Nat × V)
 | [],_ => none
 | e :: l,i => match decide (e.1 = k) with
  | true => some (i,e.2.1)
  | false => mIdx k l (i + 1)
def mE (kf : K → Value) (vf : V → Value) (l : Mp K V) : List MapEntry := l.map fun e => ⟨kf e.1,vf e.2.1,e.2.2⟩
theorem mE_nil {kf : K → Value} {vf : V → Value} : mE kf vf [] = [] := rfl
theorem mIdx_get {k : K} : ∀ {l : Mp K V} {i : Nat},(mIdx k l i).map (·.2) = mGet k l
 | [],_ => rfl
 | e :: l,i => by
  unfold mIdx mGet
  split
  ·rfl
  ·exact mIdx_get
structure KeyT (P : Program) (kt : TypeId) (kf : K → Value) : Prop where
 chk : ∀ emp k,prun P (Instr.checkKey emp 10000 kt (kf k)) = some ()
 fnd : ∀ {W : Type} (vf : W → Value) (l : Mp K W) (k : K),prun P (Instr.findKey kt (kf k) (mE kf vf l)) = some ((mIdx k l 0).map fun p => (p.1,vf p.2))
 bits : ∀ k,Instr.sameBits 10000 (kf k) (kf k) = true
 plain : ∀ k,plainV (kf k) = true
theorem mIdx_none {k : K} : ∀ {l : Mp K V} {i : Nat},mIdx k l i = none → mGet k l = none ∧ (∀ c v,mSet c k v l = l ++ [(k,v,c)]) ∧ ∀ c,mClk c k l = c + 1
 | [],_,_ => ⟨rfl,fun _ _ => rfl,fun _ => rfl⟩
 | e :: l,i,h => by
  unfold mIdx at h
  split at h
  ·cases h
  ·rename_i he
   obtain ⟨a,b,c⟩ := mIdx_none h
   refine ⟨?_,fun x v => ?_,fun x => ?_⟩
   ·unfold mGet; rw [he]; exact a
   ·unfold mSet; rw [he]; simp [b]
   ·unfold mClk; rw [he]; exact c x
theorem mIdx_some {k : K} : ∀ {l : Mp K V} {i j : Nat} {v : V},mIdx k l i = some (j,v) → i ≤ j ∧ mGet k l = some v ∧ ∃ e,l[j - i]? = some e ∧ e.1 = k ∧ (∀ c u,mSet c k u l = l.set (j - i) (k,u,e.2.2)) ∧ ∀ c,mClk c k l = c
 | [],_,_,_,h => by cases h
 | e :: l,i,j,v,h => by
  unfold mIdx at h
  split at h
  ·rename_i he
   cases h
   refine ⟨Nat.le_refl _,by unfold mGet; rw [he],e,by simp,of_decide_eq_true he,fun c u => ?_,fun c => ?_⟩
   ·unfold mSet; rw [he]; simp
   ·unfold mClk; rw [he]
  ·rename_i he
   obtain ⟨h0,h1,e',h2,h3,h4,h5⟩ := mIdx_some h
   have hj : j - i = (j - (i + 1)) + 1 := by omega
   refine ⟨by omega,by unfold mGet; rw [he]; exact h1,e',by rw [hj]; simpa using h2,h3,fun c u => ?_,fun c => ?_⟩
   ·unfold mSet; rw [he,hj]; simp [h4]
   ·unfold mClk; rw [he]; exact h5 c
theorem find_m {kt : TypeId} {kf : K → Value} (hk : KeyT P kt kf) {emp : Bool} {vf : V → Value} {l : Mp K V} {k : K} : afind P kt emp (kf k) (mE kf vf l) = some ((mIdx k l 0).map fun p => (p.1,vf p.2)) := by
 unfold afind
 rw [hk.chk]
 exact hk.fnd vf l k
theorem look_m {t kt et : TypeId} {kf : K → Value} {vf : V → Value} {l : Mp K V} {k : K} {d : V} (hm : mapTy P t = some (kt,et)) (hk : KeyT P kt kf) (hz : azero P et = some (vf d)) (hp : ∀ v,plainV (vf v) = true) {ok : Bool} :
  alook P t (mE kf vf l) (kf k) ok = some (lookRes ok (vf (mGetD d k l)) (mHas k l)) := by
 unfold alook
 rw [hm]
 simp only [find_m hk]
 have hg := mIdx_get (k := k) (l := l) (i := 0)
 unfold mGetD mHas
 cases h : mIdx k l 0 with
 | none =>
  rw [h] at hg
  simp only [Option.map_none] at hg ⊢
  rw [← hg]
  simp only [hz,hp,Option.getD_none,Option.isSome_none]
 | some p =>
  rw [h] at hg
  simp only [Option.map_some] at hg ⊢
  rw [← hg]
  simp only [hp,Option.getD_some,Option.isSome_some]
theorem upd_m {t kt et : TypeId} {kf : K → Value} {vf : V → Value} {l : Mp K V} {k : K} {v : V} {c : Nat} (hm : mapTy P t = some (kt,et)) (hk : KeyT P kt kf) :
  aupd P t (mE kf vf l) c (kf k) (vf v) = some (mE kf vf (mSet c k v l),mClk c k l) := by
 unfold aupd
 rw [hm]
 simp only [find_m hk]
 cases h : mIdx k l 0 with
 | none =>
  obtain ⟨_,h2,h3⟩ := mIdx_none h
  simp only [Option.map_none,h2,h3]
  simp [mE]
 | some p =>
  obtain ⟨i,u⟩ := p
  obtain ⟨_,_,e,h2,h3,h4,h5⟩ := mIdx_some h
  simp only [Nat.sub_zero] at h2 h4
  have he : (mE kf vf l)[i]? = some ⟨kf e.1,vf e.2.1,e.2.2⟩ := by simp [mE,h2]
  simp only [Option.map_some,he,h3,hk.bits,h4,h5]
  congr 2
  simp only [mE,List.map_set]
theorem key_now {kt : TypeId} {d : TypeDesc} {kf : K → Value} (hu : P.underlying kt = some d) (hs : ∀ a b,Instr.sameNow d (kf a) (kf b) = some (decide (b = a))) (hb : ∀ k,Instr.sameBits 10000 (kf k) (kf k) = true) (hp : ∀ k,plainV (kf k) = true) (hc : ∀ emp k,prun P (Instr.checkKey emp 10000 kt (kf k)) = some ()) : KeyT P kt kf := by
 refine ⟨hc,fun {W} vf l k => ?_,hb,hp⟩
 have hn : ∀ (l : Mp K W) i,Instr.findNow d (kf k) (mE kf vf l) i = some ((mIdx k l i).map fun p => (p.1,vf p.2)) := by
  intro l
  induction l with
  | nil => intro i; rfl
  | cons e l ih =>
   intro i
   show Instr.findNow d (kf k) (⟨kf e.1,vf e.2.1,e.2.2⟩ :: mE kf vf l) i = _
   unfold Instr.findNow mIdx
   rw [hs]
   cases decide (e.1 = k) with
   | true => rfl
   | false => exact ih (i + 1)
 unfold Instr.findKey
 rw [prun_bind _ _ (prun_und hu),hn]
 rfl
theorem bytes_eq (a b : ByteArray) : (a == b) = decide (a = b) := by
 show (a.data == b.data) = _
 have : (a = b) ↔ a.data = b.data := ⟨fun h => by rw [h],fun h => ByteArray.ext h⟩
 rw [show decide (a = b) = decide (a.data = b.data) from decide_eq_decide.2 this]
 cases h : (a.data == b.data) with
 | true => exact (decide_eq_true (eq_of_beq h)).symm
 | false => exact (decide_eq_false (fun e => by rw [e] at h; simp at h)).symm
abbrev sV (s : List UInt8) : Value := .string (bs s)
theorem key_str {kt : TypeId} (hu : P.underlying kt = some .string) : KeyT P kt sV := by
 refine key_now hu (fun a b => ?_) (fun z => ?_) (fun _ => rfl) (fun emp z => ?_)
 ·simp only [Instr.sameNow]
  congr 1
  rw [bytes_eq]
  by_cases h : a = b
  ·subst h; simp
  ·have h1 : ¬ bs a = bs b := fun e => h (bs_eq.1 e)
   have h2 : ¬ b = a := fun e => h e.symm
   simp [h1,h2]
 ·show (bs z == bs z) = true
  rw [bytes_eq]
  simp
 ·show prun P (Instr.checkKey emp (9999 + 1) kt _) = _
  unfold Instr.checkKey
  rw [prun_bind _ _ (prun_und hu)]
  rfl
end
theorem bs_extract {s : List UInt8} {a b : Nat} : (bs s).extract a b = bs ((s.take b).drop a) := by
 apply ByteArray.ext
 apply Array.ext'
 rw [ByteArray.data_extract]
 simp [List.drop_take]
def subF (s : List UInt8) (lo : Int) : Option (List UInt8) := match lo with
 | .ofNat a => match Nat.ble a s.length with
  | true => some (s.drop a)
  | false => none
 | _ => none
section
variable {P : Program}
theorem subF_ok {t : TypeId} (ht : P.underlying t = some .string) {s r : List UInt8} {lo : Int} (h : subF s lo = some r) {k : IntKind} : prunP P (Instr.slice t (.string (bs s)) (some (.int k lo)) none none) = some (.string (bs r)) := by
 unfold subF at h
 split at h
 ·rename_i a
  split at h
  ·rename_i hc
   cases h
   simp only [Nat.ble_eq] at hc
   have := str_from (P := P) ht (s := bs s) (k := k) (a := a) (by rw [bs_size]; exact hc)
   rw [bs_extract,bs_size,List.take_length] at this
   exact this
  ·cases h
 ·cases h
end
end Go.Pur
set_option linter.unusedSimpArgs false
set_option linter.unusedVariables false
namespace Go.Proofs.Ytmnmfmghmenkkaa
open Go.Abs Go.Pur
abbrev Rws := Nat → List (List UInt8)
def addR (k : Nat) (r : Rws) (p : List UInt8) : Rws := if p ∈ r k then r else fun i => if i = k then r k ++ [p] else r i
def rowJ (x : UInt8) (k : Nat) (r : Rws) (j : Nat) : Rws := ((r (k - 1)).take j).foldl (fun r p => addR k r (p ++ [x])) r
def rowK (x : UInt8) (k : Nat) (r : Rws) : Rws := rowJ x k r (r (k - 1)).length
def rowsD (x : UInt8) (r : Rws) : Nat → Nat → Rws
 | 0,_ => r
 | d + 1,n => rowsD x (rowK x n r) d (n - 1)
def rows0 : Rws := fun i => if i = 0 then [[]] else []
def allR (n : Nat) (l : List UInt8) : Rws := l.foldl (fun r x => rowsD x r n n) rows0
abbrev srt (l : List (List UInt8)) : List (List UInt8) := l.mergeSort fun x y => decide (x ≤ y)
def slt (a b : List UInt8) : Prop := a.length < b.length ∨ (a.length = b.length ∧ a < b)
instance {a b : List UInt8} : Decidable (slt a b) := by unfold slt; infer_instance
def dif49 (m1 m2 : Mp (List UInt8) Int) (k : List UInt8) : Bool := decide (0 < mGetD 0 k m1) != decide (0 < mGetD 0 k m2)
def Bst (D : List UInt8 → Bool) (L : List (List UInt8)) (b : List UInt8) (is : Bool) : Prop := match is with
 | false => b = [] ∧ ∀ k ∈ L,D k = false
 | true => b ∈ L ∧ D b = true ∧ ∀ k ∈ L,D k = true → ¬ slt k b
def bst (D : List UInt8 → Bool) : List (List UInt8) → List UInt8 × Bool → List UInt8 × Bool
 | [],s => s
 | k :: l,(b,is) => bst D l (match D k && (!is || decide (slt k b)) with
  | true => (k,true)
  | false => (b,is))
def decM : List MapEntry → Option (Mp (List UInt8) Int)
 | [] => some []
 | e :: l => match e.key,e.val,decM l with
  | .string s,.int .i64 v,some r => some ((s.data.toList,v,e.born) :: r)
  | _,_,_ => none
def stOK (c : Nat) (m : Mp (List UInt8) Int) : Bool := decide (∀ s ∈ m.map (fun e : List UInt8 × Int × Nat => e.2.2),s < c) && decide ((m.map (fun e : List UInt8 × Int × Nat => e.2.2)).Nodup)
def fst49 (m1 m2 : Mp (List UInt8) Int) : List UInt8 × Bool := bst (dif49 m1 m2) (m1.map (·.1) ++ m2.map (·.1)) ([],false)
def lets (k : Nat) : List UInt8 := (List.range k).map fun j => UInt8.ofNat (97 + j)
def bhd : List UInt8 → UInt8 → Option (List UInt8)
 | [],_ => none
 | x :: w,c => if x = c then some w else bhd w c
abbrev Way := Nat × Nat × List UInt8
def nxN (w : List UInt8) (i : Nat) (c : UInt8) : Option Nat := (bhd (w.drop i) c).map fun w' => w.length - w'.length
def nxI (w : List UInt8) (i : Nat) (c : UInt8) : Int := match nxN w i c with
 | some k => (k : Int)
 | none => -1
def stL (a b : List UInt8) (i j : Nat) (part : List UInt8) : List UInt8 → List (Nat × Nat) → List Way → Option (List UInt8) × List (Nat × Nat) × List Way
 | [],m,q => (none,m,q)
 | c :: cs,m,q => match nxN a i c,nxN b j c with
  | some x,some y => if (x,y) ∈ m then stL a b i j part cs m q else stL a b i j part cs ((x,y) :: m) (q ++ [(x,y,part ++ [c])])
  | none,none => stL a b i j part cs m q
  | _,_ => (some (part ++ [c]),m,q)
def bfs (a b : List UInt8) (most : Int) : Nat → List (Nat × Nat) → List Way → Option (List UInt8)
 | 0,_,_ => none
 | n + 1,m,[] => none
 | n + 1,m,(i,j,part) :: q => if (part.length : Int) < most then (match stL a b i j part (lets 6) m q with
   | (some r,_,_) => some r
   | (none,m',q') => bfs a b most n m' q') else none
def bfs0 (a b : List UInt8) (most : Int) : Option (List UInt8) := bfs a b most 200 [(0,0)] [(0,0,[])]
def letW (c : UInt8) : Bool := decide (97 ≤ c.toNat) && decide (c.toNat < 103)
def checkW (l : List UInt8) : Int := if 10 < l.length then 19 else if l.all letW then 0 else 10
def leftW : List UInt8 → List UInt8 → Bool
 | _,[] => true
 | [],_ :: _ => false
 | c :: w,d :: p => if c = d then leftW w p else leftW w (d :: p)
def chkL : List (List UInt8) → Int
 | [] => 0
 | v :: l => if checkW v = 0 then chkL l else checkW v
def ptsL (v : List UInt8) : List (List UInt8) := (List.range (v.length + 1)).flatMap fun k => srt (allR v.length v k)
def othL (vs : List (List UInt8)) (i : Nat) : List (List UInt8) := vs.take i ++ vs.drop (i + 1)
def shortL (vs : List (List UInt8)) (i : Int) : List UInt8 × Int :=
 if 8 < vs.length then ([],3) else if chkL vs ≠ 0 then ([],chkL vs) else if i < 0 ∨ (vs.length : Int) ≤ i then ([],2) else
  match (ptsL (vs.getD i.toNat [])).find? (fun p => !((othL vs i.toNat).any fun v => leftW v p)) with
  | some p => (p,0)
  | none => ([],12)
theorem checkW_zero {v : List UInt8} (h : checkW v = 0) : v.length ≤ 10 ∧ ∀ x ∈ v,x.toNat < 128 := by
 unfold checkW at h
 split at h
 ·cases h
 ·split at h
  ·rename_i h1 h2
   refine ⟨by omega,fun x hx => ?_⟩
   have := List.all_eq_true.1 h2 x hx
   simp only [letW,Bool.and_eq_true,decide_eq_true_eq] at this
   omega
  ·cases h
theorem chkL_zero : ∀ {vs : List (List UInt8)},chkL vs = 0 → ∀ v ∈ vs,checkW v = 0
 | [],_,v,hv => by cases hv
 | u :: vs,h,v,hv => by
  unfold chkL at h
  split at h
  ·rename_i h1
   rcases List.mem_cons.1 hv with rfl | hv
   ·exact h1
   ·exact chkL_zero h v hv
  ·rename_i h1; exact absurd h h1
end Go.Proofs.Ytmnmfmghmenkkaa
set_option linter.unusedSimpArgs false
set_option linter.unusedVariables false
namespace Go.Proofs.Ytmnmfmghmenkkaa
open Go.Abs Go.Pur
def mvOf (f t : Nat) : Bool := match Nat.beq f 71 with
 | true => Nat.beq t 28
 | false => false
def tk (f : Nat → Bool) (l : List UInt8) : Nat → List UInt8
 | 0 => []
 | k + 1 => tk f l k ++ (if f k then (l[k]?).toList else [])
def tkB (m : Int) (k : Nat) : Bool := bits BinOp.and IntKind.i64 (m / 2 ^ min k 64) 1 == 1
def abc : List UInt8 := [97,98,99,100,101,102]
def lt (k : Int) (c : UInt8) : UInt8 := abc.getD ((c.toNat : Int).tmod k).toNat 0
def byV : Value → Option UInt8
 | .int .u8 (.ofNat c) => match Nat.blt c 256 with
  | true => some c.toUInt8
  | false => none
 | _ => none
def bysV : List Value → Option (List UInt8)
 | [] => some []
 | v :: l => match byV v,bysV l with
  | some c,some r => some (c :: r)
  | _,_ => none
def e17 : List KA → Option (List KR)
 | [] => some [.p (.bool true)]
 | _ => none
def e53 : List KA → Option (List KR)
 | [.p (.string s),.p (.int .i64 m)] => match Nat.ble s.size 1000 with
  | true => some [.p (.string ⟨(tk (tkB m) s.data.toList s.size).toArray⟩)]
  | false => none
 | _ => none
def e48 : List KA → Option (List KR)
 | [.p (.agg A),.p (.int .i64 (.ofNat n)),.p (.int .i64 (.ofNat k))] => match bysV A.toList,Nat.beq A.size 11,Nat.ble n 10,Nat.ble 1 k,Nat.ble k 6 with
  | some xs,true,true,true,true => some [.p (.string ⟨(((xs.drop 1).take n).map (lt k)).toArray⟩)]
  | _,_,_,_,_ => none
 | _ => none
def e51 : List KA → Option (List KR)
 | [.p (.agg A),.p (.int .i64 (.ofNat n)),.p (.int .i64 (.ofNat k))] => match bysV A.toList,Nat.beq A.size 11,Nat.ble n 10,Nat.ble 1 k,Nat.ble k 6 with
  | some (c0 :: xs),true,true,true,true => some [.p (.string ⟨((xs.take (c0.toNat % (n + 1))).map (lt k)).toArray⟩)]
  | _,_,_,_,_ => none
 | _ => none
def ixB : List UInt8 → UInt8 → Int
 | [],_ => -1
 | b :: l,c => if b == c then 0 else if ixB l c == -1 then -1 else ixB l c + 1
def e56 : List KA → Option (List KR)
 | [.p (.string s),.p (.int .u8 (.ofNat c))] => some [.p (.int .i64 (ixB s.data.toList c.toUInt8))]
 | _ => none
def e55 : List KA → Option (List KR)
 | [.p (.string s)] => match Nat.ble s.size 1000 with
  | true => some [.p (.string ⟨s.data.toList.reverse.toArray⟩)]
  | false => none
 | _ => none
def strV (b : List UInt8) : Value := .string ⟨b.toArray⟩
def rows61 (w : List UInt8) : List (List (List UInt8)) := (List.range (w.length + 1)).map fun i => srt (allR w.length w i)
def e61 : List KA → Option (List KR)
 | [.p (.string s)] => match Nat.ble s.size 10,s.data.toList.all fun x => Nat.blt x.toNat 128 with
  | true,true => some [.ll ((rows61 s.data.toList).map fun l => l.map strV)]
  | _,_ => none
 | _ => none
def keyS : Value → Option (List UInt8)
 | .string s => some s.data.toList
 | _ => none
def pstrs : List Value → Option (List (List UInt8))
 | [] => some []
 | v :: l => match keyS v,pstrs l with
  | some k,some r => some (k :: r)
  | _,_ => none
def keysS : List MapEntry → Option (List (List UInt8))
 | [] => some []
 | e :: l => match keyS e.key,keysS l with
  | some k,some r => some (k :: r)
  | _,_ => none
def ofs (n : Nat) (ks : List (List UInt8)) : List (List UInt8) := srt (ks.filter fun k => decide (k.length = n))
def ok52B (n c : Nat) (es : List MapEntry) (ks : List (List UInt8)) : Bool := decide (es.length ≤ 4096) && decide (∀ e ∈ es,e.born < c) && decide ((es.map (·.born)).Nodup) && decide (ks.Nodup) && decide ((ks.filter fun k => decide (k.length = n)) ≠ [])
def e52 : List KA → Option (List KR)
 | [.m es c,.p (.int .i64 (.ofNat n))] => match keysS es with
  | some ks => match ok52B n c es ks with
   | true => some [.l ((ofs n ks).map strV)]
   | false => none
  | none => none
 | _ => none
def e49 : List KA → Option (List KR)
 | [.m es1 c1,.m es2 c2] => match decM es1,decM es2 with
  | some m1,some m2 => match stOK c1 m1 && stOK c2 m2 with
   | true => some [.p (.string ⟨(fst49 m1 m2).1.toArray⟩),.p (.bool (fst49 m1 m2).2)]
   | false => none
  | _,_ => none
 | _ => none
def e70 : List KA → Option (List KR)
 | [.p (.string s),.p (.string t),.p (.int .i64 most)] => match decide (s.data.toList.length ≤ 10) && decide (t.data.toList.length ≤ 10) && decide (most ≤ 10) with
  | true => some [.p (.string ⟨((bfs0 s.data.toList t.data.toList most).getD []).toArray⟩),.p (.bool (bfs0 s.data.toList t.data.toList most).isSome)]
  | false => none
 | _ => none
def e44 : List KA → Option (List KR)
 | [.l cs,.p (.int .i64 i)] => match pstrs cs with
  | some vs => match Nat.ble vs.length 60 && vs.all fun v => Nat.ble v.length 60 with
   | true => some [.p (.string ⟨(shortL vs i).1.toArray⟩),.p (.int .i64 (shortL vs i).2)]
   | false => none
  | none => none
 | _ => none
def extN : Nat → List KA → Option (List KR)
 | 17 => e17
 | 48 => e48
 | 51 => e51
 | 53 => e53
 | 55 => e55
 | 56 => e56
 | 61 => e61
 | 52 => e52
 | 49 => e49
 | 70 => e70
 | 44 => e44
 | _ => fun _ => none
def yesOf (g : FuncId) : Bool := Nat.beq g 17 || Nat.beq g 48 || Nat.beq g 51 || Nat.beq g 53 || Nat.beq g 55 || Nat.beq g 56 || Nat.beq g 61 || Nat.beq g 52 || Nat.beq g 49 || Nat.beq g 70 || Nat.beq g 44
def extOf (g : FuncId) : List PV → List (Option (List PV)) → Option (PV × List (Option (List PV)) × Option Nat) := libP (extN g)
def Y0 : Pol := { keep := keepOf,glob := [],mv := mvOf,yes := yesOf,ext := extOf }
theorem works_is {hp : List (Option (List PV))} : E Try.prog Y0 17 [] hp = some (.v (.bool true),hp,none) := E_known rfl rfl
def fzmOf (f t : Nat) : Bool := false
theorem Y0_fzm {f t : Nat} : Y0.fzm f t = fzmOf f t := rfl
theorem Y0_keep {f t : Nat} : Y0.keep f t = keepOf f t := rfl
def howOf (f g : Nat) : List (Bool × Nat) := []
def partOf (f : Nat) : List (Bool × Nat) := []
theorem Y0_how {f g : Nat} : Y0.how f g = howOf f g := rfl
theorem Y0_mv {f t : Nat} : Y0.mv f t = mvOf f t := rfl
theorem Y0_part {f : Nat} : Y0.part f = partOf f := rfl
end Go.Proofs.Ytmnmfmghmenkkaa
set_option linter.unusedSimpArgs false
set_option linter.unusedVariables false
set_option linter.unusedSectionVars false
namespace Go.Proofs.Ytmnmfmghmenkkaa
open Go.Abs
def tabs : List Blk := [bareBlk 3]
def tabLocs : List Abs.Loc := [⟨0,0,0⟩]
theorem own : ownKnob Try.prog.godebug = none := by kernel_rfl
theorem mix : Try.prog.follows .mixedOrders = true := by kernel_rfl
theorem nglob : Try.prog.globals.size = 1 := by kernel_rfl
noncomputable def zt (g : Nat) (h : (((begin Try.prog (fun _ _ => 0) default).world.heap[g]?).bind Obj.row?).isSome = true) : {zt : Array Value × TypeId // ((begin Try.prog (fun _ _ => 0) default).world.heap[g]?).bind Obj.row? = some (zt.1, zt.2)} := ⟨(Option.get _ h), (Option.some_get h).symm⟩
noncomputable def z0 := zt 0 (by kernel_rfl)
theorem start {W : World} (hS : W.ShapedOpen Try.prog) (l : List Blk) (ls : List Abs.Loc) (hlen : l.length = ls.length) (hl : ∀ (i : Nat) (B : Blk) (L : Abs.Loc),l[i]? = some B → ls[i]? = some L → Lies W B L) :
  Rel Try.prog (mapOf (tabLocs ++ ls)) (heapOf (tabs ++ l)) W := by
 refine rel_init _ _ (by simp [tabs,tabLocs,hlen]) (fun i B L hB hL => ?_) (fun g hg => ?_)
 ·match i,hB,hL with
  | 0,hB,hL => cases hB; cases hL; exact lies_bare 3 hS (by rw [nglob]; decide) z0.2
  | i + 1,hB,hL => exact hl i B L (by simpa [tabs] using hB) (by simpa [tabLocs] using hL)
 ·rw [nglob] at hg
  match g,hg with
  | 0,_ => rfl
theorem tabs_wr : ∀ B ∈ tabs,B.wr = false := by
 intro B hB
 simp only [tabs,List.mem_cons,List.not_mem_nil,or_false] at hB
 rcases hB with rfl; rfl
noncomputable def laidWorld (os : Os) : World := World.holding Try.prog os ⟨#[], #[], []⟩
end Go.Proofs.Ytmnmfmghmenkkaa
set_option linter.unusedSimpArgs false
set_option linter.unusedVariables false
namespace Go.Proofs.Ytmnmfmghmenkkaa
open Go.Abs Go.Pur
set_option maxRecDepth 100000
noncomputable def yesBare (f : FuncId) : Bool := match run Try.prog noO 100000 f [] (bare Try.prog) with
 | some (.bool true,_) => true
 | _ => false
theorem works_bare : yesBare 17 = true := by kernel_rfl
theorem yes_bare {f : FuncId} (h : yesBare f = true) : ∃ h',run Try.prog noO 100000 f [] (bare Try.prog) = some (.bool true,h') := by
 unfold yesBare at h
 split at h
 ·rename_i h' e; exact ⟨h',e⟩
 ·cases h
theorem ok17 : FnOK Try.prog Y0 17 := by
 obtain ⟨h',hr⟩ := yes_bare works_bare
 refine fnOK_lib e17 rfl (bare_true mix hr).1 (fun xs rs he m h w hR args hd => ?_)
 cases xs with
 | cons a l => cases he
 | nil =>
  cases he
  cases hd
  exact ((bare_true mix hr).2 hR).mono fun e w' ⟨h1,h2⟩ => ⟨[.bool true],h1,h2,.cons _ _ _ _ (.p _) .nil⟩
end Go.Proofs.Ytmnmfmghmenkkaa
namespace Go.Proofs
open Go.Shelf
def Try.lays169_ren : Go.Shelf.Ren := ⟨fun | 169 => 77 | n => n,fun | 70 => 92 | 9 => 9 | 0 => 0 | 72 => 94 | 37 => 75 | 127 => 112 | 3 => 3 | 5 => 5 | n => n,fun | n => n⟩
theorem Try.lays169 : Go.Proofs.Lays.n169 Try.prog Try.lays169_ren := {
 mixed := by kernel_rfl
 f169 := Try.func77.trans (congrArg some (by kernel_rfl))
 t0 := Try.underlying0
 a0 := Try.isAgg0
 z0 := Try.sizeOf0
 v0 := Try.zeroValue0
 t3 := Try.underlying3
 a3 := Try.isAgg3
 z3 := Try.sizeOf3
 v3 := Try.zeroValue3
 t9 := Try.underlying9
 a9 := Try.isAgg9
 z9 := Try.sizeOf9
 v9 := Try.zeroValue9
 t37 := Try.underlying75
 a37 := Try.isAgg75
 z37 := Try.sizeOf75
 v37 := Try.zeroValue75
 t70 := Try.underlying92
 a70 := Try.isAgg92
 z70 := Try.sizeOf92
 v70 := Try.zeroValue92
 t72 := Try.underlying94
 a72 := Try.isAgg94
 z72 := Try.sizeOf94
 v72 := Try.zeroValue94
 t127 := Try.underlying112
 a127 := Try.isAgg112
 z127 := Try.sizeOf112
 v127 := Try.zeroValue112 }
theorem Try.Builder_Extra_169 : Builder.Extra Try.prog Try.lays169_ren := {
 sizeBuilder := by kernel_rfl
 liesBuilder := by kernel_rfl
 t5 := Try.underlying5
 a5 := Try.isAgg5
 z5 := Try.sizeOf5
 v5 := Try.zeroValue5
 infoByte := by kernel_rfl
 cellsByte := by kernel_rfl
 sizeByte := by kernel_rfl
 neB5 := by decide }
def Try.lays137_ren : Go.Shelf.Ren := ⟨fun | 137 => 56 | 217 => 80 | 266 => 86 | n => n,fun | 9 => 9 | 5 => 5 | 3 => 3 | n => n,fun | n => n⟩
theorem Try.lays137 : Go.Proofs.Lays.n137 Try.prog Try.lays137_ren := {
 mixed := by kernel_rfl
 f137 := Try.func56.trans (congrArg some (by kernel_rfl))
 f217 := Try.func80.trans (congrArg some (by kernel_rfl))
 f266 := Try.func86.trans (congrArg some (by kernel_rfl))
 t3 := Try.underlying3
 a3 := Try.isAgg3
 z3 := Try.sizeOf3
 v3 := Try.zeroValue3
 t5 := Try.underlying5
 a5 := Try.isAgg5
 z5 := Try.sizeOf5
 v5 := Try.zeroValue5
 t9 := Try.underlying9
 a9 := Try.isAgg9
 z9 := Try.sizeOf9
 v9 := Try.zeroValue9 }
open Go.RowKit in
theorem Try.strings_IndexByte (s : ByteArray) (c : Int) (w : World) :
  Calls Try.prog 56 #[.string s,.int .u8 c] w fun e w' => e = .returned (.int .i64 (Lib.indexByte s.data.toList c.toNat.toUInt8)) ∧ w' = w := Any.strings_IndexByte Try.lays137 s c w
def Try.lays190_ren : Go.Shelf.Ren := ⟨fun | 190 => 78 | 125 => 85 | 258 => 84 | 128 => 97 | 129 => 98 | 302 => 88 | 303 => 89 | 304 => 90 | 305 => 91 | 306 => 92 | 307 => 93 | 308 => 94 | 309 => 95 | 310 => 96 | 333 => 99 | 329 => 100 | 330 => 101 | 334 => 102 | 335 => 103 | 336 => 104 | 344 => 105 | n => n,fun | 31 => 36 | 9 => 9 | 3 => 3 | 46 => 115 | 0 => 0 | 51 => 127 | 53 => 129 | 4 => 4 | 183 => 120 | 182 => 119 | 131 => 124 | 5 => 5 | 218 => 130 | 222 => 134 | 228 => 136 | 229 => 137 | n => n,fun | n => n⟩
theorem Try.lays190 : Go.Proofs.Lays.n190 Try.prog Try.lays190_ren := {
 mixed := by kernel_rfl
 f125 := Try.func85.trans (congrArg some (by kernel_rfl))
 f128 := Try.func97.trans (congrArg some (by kernel_rfl))
 f129 := Try.func98.trans (congrArg some (by kernel_rfl))
 f190 := Try.func78.trans (congrArg some (by kernel_rfl))
 f258 := Try.func84.trans (congrArg some (by kernel_rfl))
 f302 := Try.func88.trans (congrArg some (by kernel_rfl))
 f303 := Try.func89.trans (congrArg some (by kernel_rfl))
 f304 := Try.func90.trans (congrArg some (by kernel_rfl))
 f305 := Try.func91.trans (congrArg some (by kernel_rfl))
 f306 := Try.func92.trans (congrArg some (by kernel_rfl))
 f307 := Try.func93.trans (congrArg some (by kernel_rfl))
 f308 := Try.func94.trans (congrArg some (by kernel_rfl))
 f309 := Try.func95.trans (congrArg some (by kernel_rfl))
 f310 := Try.func96.trans (congrArg some (by kernel_rfl))
 f329 := Try.func100.trans (congrArg some (by kernel_rfl))
 f330 := Try.func101.trans (congrArg some (by kernel_rfl))
 f333 := Try.func99.trans (congrArg some (by kernel_rfl))
 f334 := Try.func102.trans (congrArg some (by kernel_rfl))
 f335 := Try.func103.trans (congrArg some (by kernel_rfl))
 f336 := Try.func104.trans (congrArg some (by kernel_rfl))
 f344 := Try.func105.trans (congrArg some (by kernel_rfl))
 t0 := Try.underlying0
 a0 := Try.isAgg0
 z0 := Try.sizeOf0
 v0 := Try.zeroValue0
 t3 := Try.underlying3
 a3 := Try.isAgg3
 z3 := Try.sizeOf3
 v3 := Try.zeroValue3
 t4 := Try.underlying4
 a4 := Try.isAgg4
 z4 := Try.sizeOf4
 v4 := Try.zeroValue4
 t5 := Try.underlying5
 a5 := Try.isAgg5
 z5 := Try.sizeOf5
 v5 := Try.zeroValue5
 t9 := Try.underlying9
 a9 := Try.isAgg9
 z9 := Try.sizeOf9
 v9 := Try.zeroValue9
 t31 := Try.underlying36
 a31 := Try.isAgg36
 z31 := Try.sizeOf36
 v31 := Try.zeroValue36
 t46 := Try.underlying115
 a46 := Try.isAgg115
 z46 := Try.sizeOf115
 v46 := Try.zeroValue115
 t51 := Try.underlying127
 a51 := Try.isAgg127
 z51 := Try.sizeOf127
 v51 := Try.zeroValue127
 t53 := Try.underlying129
 a53 := Try.isAgg129
 z53 := Try.sizeOf129
 v53 := Try.zeroValue129
 t131 := Try.underlying124
 a131 := Try.isAgg124
 z131 := Try.sizeOf124
 v131 := Try.zeroValue124
 t182 := Try.underlying119
 a182 := Try.isAgg119
 z182 := Try.sizeOf119
 v182 := Try.zeroValue119
 t183 := Try.underlying120
 a183 := Try.isAgg120
 z183 := Try.sizeOf120
 v183 := Try.zeroValue120
 t218 := Try.underlying130
 a218 := Try.isAgg130
 z218 := Try.sizeOf130
 v218 := Try.zeroValue130
 t222 := Try.underlying134
 a222 := Try.isAgg134
 z222 := Try.sizeOf134
 v222 := Try.zeroValue134
 t228 := Try.underlying136
 a228 := Try.isAgg136
 z228 := Try.sizeOf136
 v228 := Try.zeroValue136
 t229 := Try.underlying137
 a229 := Try.isAgg137
 z229 := Try.sizeOf137
 v229 := Try.zeroValue137 }
open Go.Sort Go.RowKit in
theorem Try.slices_Sort_string (blk off cap : Nat) (ss : List (List UInt8)) (w : World) (hH : Holds encStr w blk off ss.toArray) (hblk : blk < w.heap.size) (hsz : ss.length < 4611686018427387904) :
  Calls Try.prog 78 #[.slice (some ⟨blk,off,none⟩) ss.length cap] w fun e w' =>
   e = .returned (.tuple #[]) ∧ ∃ n os,w' = grow (putRow encStr (Sort.ahead w n) blk off (ss.mergeSort fun x y => decide (x ≤ y)).toArray) os := Any.slices_Sort_string Try.lays190 blk off cap ss w hH hblk hsz
end Go.Proofs
set_option linter.unusedSimpArgs false
set_option linter.unusedVariables false
namespace Go.Proofs.Ytmnmfmghmenkkaa
open Go.RowKit
set_option maxRecDepth 100000
set_option maxHeartbeats 1000000
theorem sizeBuilder : ∃ j,Try.prog.info? 94 = some j ∧ j.size = 2 := Option.map_eq_some_iff.1 Try.Builder_Extra_169.sizeBuilder
theorem copyCheck_used (b : Nat) (w : World) (h0 : w.cell? ⟨b,0,none⟩ = some (.pointer (some ⟨b,0,none⟩))) :
  Calls Try.prog 83 #[.pointer (some ⟨b,0,none⟩)] w fun e w' => e = .returned (.tuple #[]) ∧ w' = w := by
 obtain ⟨j,hj,_⟩ := sizeBuilder
 go_enter Try.func83,Try.ntmps83
 go_wp2
 rw [Lib.run_neq_ptr_same w _ Try.underlying92 hj]
 go_wp2
 go_end0
 exact ⟨rfl,rfl⟩
theorem copyCheck_fresh (b : Nat) (w : World) (h0 : w.cell? ⟨b,0,none⟩ = some (.pointer none)) (hsh : w.shape? b = some (94,2)) (hfz : w.frozen? ⟨b,0,none⟩ = false) :
  Calls Try.prog 83 #[.pointer (some ⟨b,0,none⟩)] w fun e w' => e = .returned (.tuple #[]) ∧ w' = w.setCell ⟨b,0,none⟩ (.pointer (some ⟨b,0,none⟩)) := by
 obtain ⟨j,hj,hjs⟩ := sizeBuilder
 go_enter Try.func83,Try.ntmps83
 go_wp2
 rw [Lib.run_to_unsafe w ⟨b,0,none⟩ Try.underlying92 Try.underlying116 hj (by rw [hjs]; decide) hsh (Nat.zero_lt_succ 1)]
 simp only [Result.andThen]
 rw [Oper.upon_value]
 go_wp2
 rw [run_callFunc_extern Try.func87 (by kernel_rfl) (by kernel_rfl) (by kernel_rfl) (e := Extern.AbiNoEscape.same) (by kernel_rfl)]
 rw [Lib.run_noEscape]
 simp only [Result.andThen]
 rw [Oper.upon_value]
 go_wp2
 rw [Lib.run_from_unsafe w ⟨b,0,none⟩ Try.underlying116 Try.underlying92 hj hsh Try.Builder_Extra_169.liesBuilder]
 simp only [Result.andThen]
 rw [Oper.upon_value]
 go_wp2
 go_end0
 exact ⟨rfl,rfl⟩
theorem copyCheck (B b : Nat) (bs : List Value) (w : World) (h : Lib.IsBuilder 94 5 B b bs w) :
  Calls Try.prog 83 #[.pointer (some ⟨b,0,none⟩)] w fun e w' => e = .returned (.tuple #[]) ∧ (Lib.BuilderAt 94 5 B b (.pointer (some ⟨b,0,none⟩)) bs w' ∧ Below B w w') := by
 rcases h with h | h
 ·refine (copyCheck_fresh b w h.cell0 h.shape h.frozen0).mono ?_
  rintro e w' ⟨rfl,rfl⟩
  exact ⟨rfl,h.used _,(Below.refl B w).setCell (p := ⟨b,0,none⟩) h.1 _⟩
 ·refine (copyCheck_used b w h.cell0).mono ?_
  rintro e w' ⟨rfl,rfl⟩
  exact ⟨rfl,h,Below.refl B _⟩
theorem writeByte (B b : Nat) (bs : List Value) (c : Int) (w : World) (h : Lib.IsBuilder 94 5 B b bs w) (hlen : bs.length + 1 ≤ 140737488355328) (hBw : B ≤ w.heap.size) :
  Calls Try.prog 76 #[.pointer (some ⟨b,0,none⟩),.int .u8 c] w fun e w' => e = .returned .nilIface ∧ (Lib.BuilderAt 94 5 B b (.pointer (some ⟨b,0,none⟩)) (bs ++ [.int .u8 c]) w' ∧ Below B w w') := by
 obtain ⟨i0,hi,hz0,hz1,hz2⟩ := info_parts Try.Builder_Extra_169.infoByte
 go_enter Try.func76,Try.ntmps76
 go_wp2_with (go_at_call 83; refine (copyCheck B b bs _ h).mono ?_)
 rintro e w1 ⟨rfl,h1,hb1⟩
 obtain ⟨hB,v,hbk,hown,hne⟩ := h1
 have c0 : w1.cell? ⟨b,0,none⟩ = some (.pointer (some ⟨b,0,none⟩)) := by rw [Lib.cell_of_heap hbk]; rfl
 have c1 : w1.cell? ⟨b,1,none⟩ = some v := by rw [Lib.cell_of_heap hbk]; rfl
 go_wp2_with (at_builtin; refine wpList_append_own _ rfl _ _ 75 rfl B 5 i0 (.int .u8 0) 1 1 Try.underlying75 hi hz0 hz1 hz2 rfl (by decide) _ _ _ rfl (hown.alloc _) ⟨w1.heap.size,0,none⟩ 1 1 [.int .u8 c] rfl rfl ?c1 ?c2 ?c3 ?c4 ?c5 ?_)
 case c1 =>
  intro j u hj
  match j,hj with
  | 0,hj => simp at hj; subst hj; simp [Addr.add]
 case c2 => intro u hu; simp at hu; subst hu; rfl
 case c3 => unfold maxLen; omega
 case c4 => omega
 case c5 => have := hb1.size; simp; omega
 intro v' w2 hown' hgrow _
 have hlt : b < w1.heap.size := by
  rcases Nat.lt_or_ge b w1.heap.size with h' | h'
  ·exact h'
  ·simp [Array.getElem?_eq_none h'] at hbk
 have hb2 : w2.heap[b]? = some (.cells #[.pointer (some ⟨b,0,none⟩),v] 94 (0,0)) := by
  rw [hgrow.block b (by simp; omega) (fun e => hne e.symm),Lib.alloc_old w1 _ b hlt]
  exact hbk
 have d0 : w2.cell? ⟨b,0,none⟩ = some (.pointer (some ⟨b,0,none⟩)) := by rw [Lib.cell_of_heap hb2]; rfl
 have d1 : w2.cell? ⟨b,1,none⟩ = some v := by rw [Lib.cell_of_heap hb2]; rfl
 have f1 : w2.frozen? ⟨b,1,none⟩ = false := Lib.frozen_of_heap hb2 1
 obtain ⟨g,cap,rfl⟩ : ∃ g cap,v' = .slice (some ⟨g,0,none⟩) (bs.length + 1) cap := by
  rcases hown'.2 with ⟨_,h0⟩ | ⟨g,cap,cur,hv,_⟩
  ·omega
  ·exact ⟨g,cap,hv⟩
 go_wp2
 go_ret
 refine ⟨rfl, ?_, ?_⟩
 ·exact Lib.BuilderAt.put (T := 94) (e := 5) hB hb2 (bs' := bs ++ [.int .u8 c]) (by simpa using hown') Try.Builder_Extra_169.neB5
 ·exact ((hb1.alloc (by have := hb1.size; omega) _).grown hgrow (by have := hb1.size; simp; omega) (fun k hk => (hown.lt k hk).1)).setCell (p := ⟨b,1,none⟩) hB _
theorem builderString (B b : Nat) (l : List UInt8) (w : World) (h : Lib.IsBuilder 94 5 B b (Lib.byteCells l) w) (hBw : B ≤ w.heap.size) :
  Calls Try.prog 77 #[.pointer (some ⟨b,0,none⟩)] w fun e w' => e = .returned (.string ⟨l.toArray⟩) ∧ Below B w w' := Any.Builder_String_any Try.lays169 Try.Builder_Extra_169 B b l w h hBw
end Go.Proofs.Ytmnmfmghmenkkaa
set_option linter.unusedSimpArgs false
set_option linter.unusedVariables false
namespace Go.Proofs.Ytmnmfmghmenkkaa
open Go.RowKit
set_option maxRecDepth 100000
set_option maxHeartbeats 1000000
theorem hid {p : Prop} (h : p) : Hid p := h
theorem tk_len (f : Nat → Bool) (l : List UInt8) : ∀ k,(tk f l k).length ≤ k
 | 0 => Nat.le_refl _
 | k + 1 => by
  have := tk_len f l k
  simp only [tk,List.length_append]
  split
  ·cases l[k]? <;> simp <;> omega
  ·simp; omega
theorem taken_calls (s : ByteArray) (m : Int) (w : World) (hs : s.size ≤ 140737488355327) :
  Calls Try.prog 53 #[.string s,.int .i64 m] w fun e w' => e = .returned (.string ⟨(tk (tkB m) s.data.toList s.size).toArray⟩) ∧ Below w.heap.size w w' := by
 go_enter Try.func53,Try.ntmps53
 go_wp2_with fail
 go_loopw [9] (fun i wr => ∃ k : Nat,k ≤ s.size ∧ i = .int .i64 k ∧ Hid (Lib.IsBuilder 94 5 w.heap.size w.heap.size (Lib.byteCells (tk (tkB m) s.data.toList k)) wr) ∧ Hid (Below w.heap.size w wr)) (fun i _ => s.size - (intOf i).toNat)
 case atStart => exact ⟨0,Nat.zero_le _,rfl,hid (Lib.fresh_isBuilder 94 5 w),hid ((Below.refl w.heap.size w).alloc (Nat.le_refl _) _)⟩
 case round =>
  obtain ⟨k,hk,rfl,HB,HW⟩ := hrel
  by_cases hkr : k < s.size
  ·go_wp2_with fail
   ·have hb : tkB m k = true := by assumption
    have hBw : w.heap.size ≤ wr.heap.size := HW.out.size
    have hl := tk_len (tkB m) s.data.toList k
    refine (writeByte w.heap.size w.heap.size _ _ wr HB.out (by rw [Lib.byteCells_length]; omega) hBw).mono ?_
    rintro e w3 ⟨rfl,h3,hb3⟩
    have hn : Lib.byteCells (tk (tkB m) s.data.toList k) ++ [.int .u8 (s[k].toNat : Int)] = Lib.byteCells (tk (tkB m) s.data.toList (k + 1)) := by
     have hg : s.data.toList[k]? = some s[k] := by
      rw [List.getElem?_eq_getElem (by simpa using hkr)]
      rfl
     simp only [tk,hb,if_true,hg,Option.toList_some,Lib.byteCells_append]
     rfl
    rw [hn] at h3
    have H3 : Hid (Lib.IsBuilder 94 5 w.heap.size w.heap.size (Lib.byteCells (tk (tkB m) s.data.toList (k + 1))) w3) := hid (Or.inr h3)
    have Hb3 : Hid (Below w.heap.size w w3) := hid (HW.out.trans hb3)
    clear h3 hb3 hn
    go_wp2
    exact ⟨⟨k + 1,by omega,by go_num,H3,Hb3⟩,by simp [intOf]; omega⟩
   ·have hb : tkB m k = false := by assumption
    have hn : tk (tkB m) s.data.toList (k + 1) = tk (tkB m) s.data.toList k := by simp [tk,hb]
    exact ⟨⟨k + 1,by omega,by go_num,by rw [hn]; exact HB,HW⟩,by simp [intOf]; omega⟩
  ·obtain rfl : k = s.size := by omega
   have hBw : w.heap.size ≤ wr.heap.size := HW.out.size
   go_wp2_with fail
   refine (builderString w.heap.size w.heap.size _ wr HB.out hBw).mono ?_
   rintro e w5 ⟨rfl,hb5⟩
   have Hb5 : Hid (Below w.heap.size w w5) := hid (HW.out.trans hb5)
   clear hb5
   go_wp2
   go_ret
   exact ⟨rfl,Hb5.out⟩
theorem abc_get (i : Nat) (h : i < (ByteArray.mk #[97,98,99,100,101,102]).size) : (ByteArray.mk #[97,98,99,100,101,102])[i] = abc.getD i 0 := by
 have h6 : i < 6 := h
 match i,h6 with
 | 0,_ | 1,_ | 2,_ | 3,_ | 4,_ | 5,_ => rfl
theorem wrap_u8 (c : UInt8) : wrap64 (c.toNat : Int) = c.toNat := by
 have := c.toNat_lt
 rw [IntWalk.wrap64_in] <;> omega
theorem idx (c : UInt8) (k : Int) (h : ((wrap64 (c.toNat : Int)).tmod k).toNat < (ByteArray.mk #[97,98,99,100,101,102]).size) : (ByteArray.mk #[97,98,99,100,101,102])[((wrap64 (c.toNat : Int)).tmod k).toNat]'h = lt k c := by
 rw [abc_get]
 unfold lt
 rw [wrap_u8]
theorem tmod_lt (a : Nat) (k : Nat) (hk : 1 ≤ k) (h6 : k ≤ 6) : 0 ≤ (a : Int).tmod k ∧ (a : Int).tmod k < 6 := by
 rw [Int.tmod_eq_emod_of_nonneg (by omega)]
 have h1 : (a : Int) % k = ((a % k : Nat) : Int) := by simp
 have := Nat.mod_lt a (show 0 < k by omega)
 rw [h1]
 omega
theorem slice52 (w : World) (b o n : Nat) (hn : n ≤ 10) : (Instr.sliceAt 52 (.pointer (some ⟨b,o,none⟩)) none (some (.int .i64 n)) none).run Try.prog w = .ok (.slice (some ⟨b,o,none⟩) n 10) w := by
 have ha : Try.prog.arrayLen 52 = 10 := by simp [Program.arrayLen,Try.underlying52]
 have he : Try.prog.elem 52 = 5 := by simp [Program.elem,Try.underlying52]
 obtain ⟨i0,hi,hz0,hz1,hz2⟩ := info_parts Try.Builder_Extra_169.infoByte
 rw [run_sliceAt_array_h w 52 ⟨b,o,none⟩ (by rw [ha,he]; exact Try.underlying52) .i64 (n : Int) (by omega) (by rw [ha]; omega),ha,he]
 have hs : (sizeOf 5).run Try.prog w = .ok 1 w := by
  have hi' : Try.prog.info? 5 = some i0 := hi
  simp [sizeOf,typeInfo,hi',hz1,go_sem]
 rw [hs]
 simp [Result.andThen,slicedAt,Addr.add]
theorem sized_calls (xs : List UInt8) (hx : xs.length = 11) (n k : Nat) (w : World) (hn : n ≤ 10) (hk : 1 ≤ k) (hk6 : k ≤ 6) :
  Calls Try.prog 48 #[.agg (Lib.byteCells xs).toArray,.int .i64 n,.int .i64 k] w fun e w' => e = .returned (.string ⟨(((xs.drop 1).take n).map (lt k)).toArray⟩) ∧ Below w.heap.size w w' := by
 go_enter Try.func48,Try.ntmps48
 go_wp2_with fail
 rw [slice52 _ _ _ _ hn]
 simp only [Result.andThen]
 rw [Oper.upon_value]
 go_wp2_with fail
 have hxb : ∀ j,j < 10 → ∃ c : UInt8,xs[1 + j]? = some c := fun j hj => ⟨_,List.getElem?_eq_getElem (by omega)⟩
 have Hx := hid hxb
 clear hxb
 go_loopw [14] (fun i wr => ∃ k1 : Nat,k1 ≤ n ∧ i = .int .i64 k1 ∧ Hid (Lib.IsBuilder 94 5 (w.heap.size + 1) (w.heap.size + 1) (Lib.byteCells (((xs.drop 1).take k1).map (lt k))) wr) ∧ Hid (Below (w.heap.size + 1) (w.alloc (.cells (Lib.byteCells xs).toArray 54)) wr)) (fun i _ => n - (intOf i).toNat)
 case atStart =>
  have h := Lib.fresh_isBuilder 94 5 (w.alloc (.cells (Lib.byteCells xs).toArray 54))
  have hs : (w.alloc (.cells (Lib.byteCells xs).toArray 54)).heap.size = w.heap.size + 1 := by simp
  rw [hs] at h
  exact ⟨0,Nat.zero_le _,rfl,hid (by simpa [Lib.byteCells] using h),hid ((Below.refl _ _).alloc (by simp) _)⟩
 case round =>
  obtain ⟨k1,hk1,rfl,HB,HW⟩ := hrel
  by_cases hkr : k1 < n
  ·obtain ⟨c,hc⟩ := Hx.out k1 (by omega)
   have hcell : wr.cell? ⟨w.heap.size,1 + k1,none⟩ = some (.int .u8 c.toNat) := by
    rw [HW.out.cell (p := ⟨w.heap.size,1 + k1,none⟩) (Nat.lt_succ_self _)]
    simp only [World.cell?,heap_alloc_new]
    simp [Lib.byteCells,hc]
   have hm := tmod_lt c.toNat k hk hk6
   go_wp2_with fail
   ·have hBw : w.heap.size + 1 ≤ wr.heap.size := by have := HW.out.size; simp at this; omega
    refine (writeByte _ _ _ _ wr HB.out (by rw [Lib.byteCells_length]; simp; omega) hBw).mono ?_
    rintro e w3 ⟨rfl,h3,hb3⟩
    have hn : Lib.byteCells (((xs.drop 1).take k1).map (lt k)) ++ [.int .u8 ((lt k c).toNat : Int)] = Lib.byteCells (((xs.drop 1).take (k1 + 1)).map (lt k)) := by
     have hd : (xs.drop 1)[k1]? = some c := by rw [List.getElem?_drop]; exact hc
     rw [List.take_add_one,hd,List.map_append,Lib.byteCells_append]
     rfl
    rw [idx c k _,hn] at h3
    have H3 := hid (Or.inr h3 : Lib.IsBuilder 94 5 (w.heap.size + 1) (w.heap.size + 1) (Lib.byteCells (((xs.drop 1).take (k1 + 1)).map (lt k))) w3)
    have Hb3 := hid (HW.out.trans hb3)
    clear h3 hb3 hn hm
    go_wp2
    exact ⟨⟨k1 + 1,by omega,by go_num,H3,Hb3⟩,by simp [intOf]; omega⟩
   ·rename_i hne
    rw [wrap_u8] at hne
    exact absurd hm hne
  ·obtain rfl : k1 = n := by omega
   have hBw : w.heap.size + 1 ≤ wr.heap.size := by have := HW.out.size; simp at this; omega
   go_wp2_with fail
   refine (builderString _ _ _ wr HB.out hBw).mono ?_
   rintro e w5 ⟨rfl,hb5⟩
   have Hb5 : Hid (Below w.heap.size w w5) := hid (((Below.refl w.heap.size w).alloc (Nat.le_refl _) _).trans ((HW.out.trans hb5).mono (by omega)))
   clear hb5
   go_wp2
   go_ret
   refine ⟨?_,Hb5.out⟩
   simp [go_sem]
theorem made_calls (xs : List UInt8) (hx : xs.length = 11) (n k : Nat) (w : World) (c0 : UInt8) (h0 : xs[0]? = some c0) (hn : n ≤ 10) (hk : 1 ≤ k) (hk6 : k ≤ 6) :
  Calls Try.prog 51 #[.agg (Lib.byteCells xs).toArray,.int .i64 n,.int .i64 k] w fun e w' => e = .returned (.string ⟨(((xs.drop 1).take (c0.toNat % (n + 1))).map (lt k)).toArray⟩) ∧ Below w.heap.size w w' := by
 go_enter Try.func51,Try.ntmps51
 have hcell0 : ((w.alloc (.cells (Lib.byteCells xs).toArray 54)).alloc (.cells #[.pointer none,.slice none 0 0] 94)).cell? ⟨w.heap.size,0,none⟩ = some (.int .u8 c0.toNat) := by
  have hs : (w.alloc (.cells (Lib.byteCells xs).toArray 54)).heap.size = w.heap.size + 1 := by simp
  simp only [World.cell?]
  rw [heap_alloc_old _ _ (by rw [hs]; omega),heap_alloc_new]
  simp [Lib.byteCells,h0]
 go_wp2_with fail
 obtain ⟨m,hm,hmn⟩ : ∃ m : Nat,c0.toNat % (n + 1) = m ∧ m ≤ 10 := ⟨_,rfl,by have := Nat.mod_lt c0.toNat (show 0 < n + 1 by omega); omega⟩
 have hmi : (wrap64 (c0.toNat : Int)).tmod ((n : Int) + 1) = (m : Int) := by
  rw [wrap_u8,Int.tmod_eq_emod_of_nonneg (by omega),← hm]
  simp
 rw [hmi,slice52 _ _ _ _ hmn]
 simp only [Result.andThen]
 rw [Oper.upon_value]
 go_wp2_with fail
 have hxb : ∀ j,j < 10 → ∃ c : UInt8,xs[1 + j]? = some c := fun j hj => ⟨_,List.getElem?_eq_getElem (by omega)⟩
 have Hx := hid hxb
 clear hxb
 go_loopw [19] (fun i wr => ∃ k1 : Nat,k1 ≤ m ∧ i = .int .i64 k1 ∧ Hid (Lib.IsBuilder 94 5 (w.heap.size + 1) (w.heap.size + 1) (Lib.byteCells (((xs.drop 1).take k1).map (lt k))) wr) ∧ Hid (Below (w.heap.size + 1) (w.alloc (.cells (Lib.byteCells xs).toArray 54)) wr)) (fun i _ => m - (intOf i).toNat)
 case atStart =>
  have h := Lib.fresh_isBuilder 94 5 (w.alloc (.cells (Lib.byteCells xs).toArray 54))
  have hs : (w.alloc (.cells (Lib.byteCells xs).toArray 54)).heap.size = w.heap.size + 1 := by simp
  rw [hs] at h
  exact ⟨0,Nat.zero_le _,rfl,hid (by simpa [Lib.byteCells] using h),hid ((Below.refl _ _).alloc (by simp) _)⟩
 case round =>
  obtain ⟨k1,hk1,rfl,HB,HW⟩ := hrel
  by_cases hkr : k1 < m
  ·obtain ⟨c,hc⟩ := Hx.out k1 (by omega)
   have hcell : wr.cell? ⟨w.heap.size,1 + k1,none⟩ = some (.int .u8 c.toNat) := by
    rw [HW.out.cell (p := ⟨w.heap.size,1 + k1,none⟩) (Nat.lt_succ_self _)]
    simp only [World.cell?,heap_alloc_new]
    simp [Lib.byteCells,hc]
   have hm1 := tmod_lt c.toNat k hk hk6
   go_wp2_with fail
   ·have hBw : w.heap.size + 1 ≤ wr.heap.size := by have := HW.out.size; simp at this; omega
    refine (writeByte _ _ _ _ wr HB.out (by rw [Lib.byteCells_length]; simp; omega) hBw).mono ?_
    rintro e w3 ⟨rfl,h3,hb3⟩
    have hn : Lib.byteCells (((xs.drop 1).take k1).map (lt k)) ++ [.int .u8 ((lt k c).toNat : Int)] = Lib.byteCells (((xs.drop 1).take (k1 + 1)).map (lt k)) := by
     have hd : (xs.drop 1)[k1]? = some c := by rw [List.getElem?_drop]; exact hc
     rw [List.take_add_one,hd,List.map_append,Lib.byteCells_append]
     rfl
    rw [idx c k _,hn] at h3
    have H3 := hid (Or.inr h3 : Lib.IsBuilder 94 5 (w.heap.size + 1) (w.heap.size + 1) (Lib.byteCells (((xs.drop 1).take (k1 + 1)).map (lt k))) w3)
    have Hb3 := hid (HW.out.trans hb3)
    clear h3 hb3 hn hm1
    go_wp2
    exact ⟨⟨k1 + 1,by omega,by go_num,H3,Hb3⟩,by simp [intOf]; omega⟩
   ·rename_i hne
    rw [wrap_u8] at hne
    exact absurd hm1 hne
  ·obtain rfl : k1 = m := by omega
   have hBw : w.heap.size + 1 ≤ wr.heap.size := by have := HW.out.size; simp at this; omega
   go_wp2_with fail
   refine (builderString _ _ _ wr HB.out hBw).mono ?_
   rintro e w5 ⟨rfl,hb5⟩
   have Hb5 : Hid (Below w.heap.size w w5) := hid (((Below.refl w.heap.size w).alloc (Nat.le_refl _) _).trans ((HW.out.trans hb5).mono (by omega)))
   clear hb5
   go_wp2
   go_ret
   refine ⟨?_,Hb5.out⟩
   rw [hm]
   simp [go_sem]
end Go.Proofs.Ytmnmfmghmenkkaa
set_option linter.unusedSimpArgs false
set_option linter.unusedVariables false
namespace Go.Proofs
open Go.Shelf
def Try.revByte_ren : Go.Shelf.Ren := ⟨fun | 35 => 79 | n => n,fun | 22 => 75 | 23 => 5 | 3 => 3 | 4 => 4 | 0 => 0 | n => n,fun | n => n⟩
theorem Try.revByte : Go.Proofs.SlLaysE.n35 Try.prog Try.revByte_ren := {
 mixed := by kernel_rfl
 f35 := ⟨Try.f79.name,by decide,Try.func79.trans (congrArg some (by kernel_rfl))⟩
 t0 := Try.underlying0
 a0 := Try.isAgg0
 z0 := Try.sizeOf0
 v0 := Try.zeroValue0
 t3 := Try.underlying3
 a3 := Try.isAgg3
 z3 := Try.sizeOf3
 v3 := Try.zeroValue3
 t4 := Try.underlying4
 a4 := Try.isAgg4
 z4 := Try.sizeOf4
 v4 := Try.zeroValue4
 t22 := Try.underlying75
 a22 := Try.isAgg75
 z22 := Try.sizeOf75
 v22 := Try.zeroValue75
 a23 := Try.isAgg5
 z23 := Try.sizeOf5 }
namespace Ytmnmfmghmenkkaa
open Go.RowKit
set_option maxRecDepth 100000
set_option maxHeartbeats 1000000
theorem hidR {p : Prop} (h : p) : Hid p := h
theorem opposite_calls (s : ByteArray) (w : World) (hs : s.size ≤ 1000) :
  Calls Try.prog 55 #[.string s] w fun e w' => e = .returned (.string ⟨s.data.toList.reverse.toArray⟩) ∧ Below w.heap.size w w' := by
 go_enter Try.func55,Try.ntmps55
 go_wp2_with fail
 rw [Lib.run_convert_string_bytes w 9 75 5 s Try.underlying9 Try.underlying75 Try.underlying5]
 simp only [Result.andThen]
 rw [Oper.upon_value]
 have hH : Sort.Holds (fun b : UInt8 => Value.int .u8 b.toNat) (Lib.bytesWorld w 5 s) w.heap.size 0 s.data.toList.toArray := by
  intro j hj
  have hj' : j < s.size := by simpa using hj
  refine ⟨?_, ?_⟩
  ·rw [Nat.zero_add,Lib.bytesWorld_cell w 5 s j hj']
   have h1 : s.data[j]? = some (s.data[j]'hj') := Array.getElem?_eq_getElem hj'
   simp [List.getD,getElem!_def,h1]
  ·rw [Nat.zero_add]
   simp [World.frozen?,Lib.bytesWorld_at_new]
   simp [Lib.bytesCells]
   intro h
   exact absurd hj' (by have : s.data.size = s.size := rfl; omega)
 have Hh := hidR hH
 clear hH
 have hb0 : Below w.heap.size w (Lib.bytesWorld w 5 s) := ⟨rfl,rfl,rfl,by rw [Lib.bytesWorld_size]; omega,fun j hj => Lib.bytesWorld_at_old w 5 s j hj⟩
 have Hb := hidR hb0
 clear hb0
 go_wp2_with fail
 have hsz : s.data.toList.length = s.size := by simp
 rw [← hsz]
 refine (AnyE.slices_Reverse Try.revByte (fun b : UInt8 => Value.int .u8 b.toNat) (fun _ => rfl) w.heap.size 0 (grownCap w s.data.toList.length 0 5) s.data.toList (Lib.bytesWorld w 5 s) Hh.out (by omega)).mono ?_
 rintro e w1 ⟨rfl,n,rfl⟩
 have hc1 : ∀ j (hj : j < s.data.toList.reverse.length),(Sort.putRow (fun b : UInt8 => Value.int .u8 b.toNat) (Sort.ahead (Lib.bytesWorld w 5 s) n) w.heap.size 0 s.data.toList.reverse.toArray).cell? ((⟨w.heap.size,0,none⟩ : Addr).add j) = some (.int .u8 (s.data.toList.reverse[j].toNat : Int)) := by
  intro j hj
  have h := Sort.cell?_putRow (fun b : UInt8 => Value.int .u8 b.toNat) (Sort.ahead (Lib.bytesWorld w 5 s) n) w.heap.size 0 s.data.toList.toArray s.data.toList.reverse.toArray Hh.out (by simp) j (by simpa using hj)
  rw [Nat.zero_add] at h
  rw [show (⟨w.heap.size,0,none⟩ : Addr).add j = ⟨w.heap.size,j,none⟩ by cases j <;> simp [Addr.add],h]
  have h2 : s.data.toList.reverse.toArray[j]! = s.data.toList.reverse[j] := by
   rw [getElem!_pos _ j (by simpa using hj)]
   simp
  rw [h2]
 have hb1 : Below w.heap.size w (Sort.putRow (fun b : UInt8 => Value.int .u8 b.toNat) (Sort.ahead (Lib.bytesWorld w 5 s) n) w.heap.size 0 s.data.toList.reverse.toArray) := by
  refine Hb.out.trans ⟨rfl,rfl,rfl,by simp [Sort.ahead],fun k hk => ?_⟩
  simp only [Sort.putRow,Sort.mapBlock,Sort.ahead,Array.getElem?_modify]
  rw [if_neg (by omega)]
 generalize Sort.putRow (fun b : UInt8 => Value.int .u8 b.toNat) (Sort.ahead (Lib.bytesWorld w 5 s) n) w.heap.size 0 s.data.toList.reverse.toArray = w2 at hc1 hb1
 have Hc1 := hidR hc1
 have Hb1 := hidR hb1
 clear hc1 hb1 Hh Hb
 have hconv := run_convert_bytes_back (P := Try.prog) w2 75 9 5 ⟨w.heap.size,0,none⟩ (grownCap w s.data.toList.length 0 5) s.data.toList.reverse Try.underlying75 Try.underlying5 Try.underlying9 Hc1.out
 rw [List.length_reverse,hsz] at hconv
 have Hconv := hidR hconv
 clear hconv
 go_wp2_with fail
 rw [Hconv.out]
 simp only [Result.andThen]
 rw [Oper.upon_value]
 go_wp2
 go_ret
 exact ⟨rfl,Hb1.out⟩
end Ytmnmfmghmenkkaa
end Go.Proofs
set_option linter.unusedSimpArgs false
set_option linter.unusedVariables false
namespace Go.Proofs.Ytmnmfmghmenkkaa
set_option maxRecDepth 100000
theorem addR_at {k i : Nat} {r : Rws} {p : List UInt8} (h : i ≠ k) : addR k r p i = r i := by
 unfold addR
 split
 ·rfl
 ·simp [h]
theorem rowJ_at {x : UInt8} {k i : Nat} {r : Rws} {j : Nat} (h : i ≠ k) : rowJ x k r j i = r i := by
 unfold rowJ
 have : ∀ (l : List (List UInt8)) (q : Rws),(l.foldl (fun r p => addR k r (p ++ [x])) q) i = q i := by
  intro l
  induction l with
  | nil => intro q; rfl
  | cons p l ih => intro q; rw [List.foldl_cons,ih,addR_at h]
 exact this _ _
theorem rowJ_succ {x : UInt8} {k : Nat} {r : Rws} {j : Nat} {p : List UInt8} (h : (r (k - 1))[j]? = some p) : rowJ x k r (j + 1) = addR k (rowJ x k r j) (p ++ [x]) := by
 unfold rowJ
 rw [List.take_add_one,h,Option.toList_some,List.foldl_append]
 rfl
theorem addR_mem {k i : Nat} {r : Rws} {p q : List UInt8} : q ∈ addR k r p i ↔ q ∈ r i ∨ (i = k ∧ q = p) := by
 unfold addR
 split
 ·rename_i h
  exact ⟨.inl,fun e => e.elim id fun ⟨e1,e2⟩ => by rw [e1,e2]; exact h⟩
 ·by_cases e : i = k
  ·subst e; simp
  ·simp [e]
theorem addR_nodup {k i : Nat} {r : Rws} {p : List UInt8} (h : (r i).Nodup) : (addR k r p i).Nodup := by
 unfold addR
 split
 ·exact h
 ·rename_i h2
  by_cases e : i = k
  ·subst e
   simp only [if_true]
   rw [List.nodup_append]
   refine ⟨h,by simp, ?_⟩
   intro a ha b hb e
   rw [List.mem_singleton] at hb
   subst hb e
   exact h2 ha
  ·simp only [if_neg e]; exact h
theorem rowK_mem {x : UInt8} {k i : Nat} {r : Rws} {q : List UInt8} : q ∈ rowK x k r i ↔ q ∈ r i ∨ (i = k ∧ ∃ p ∈ r (k - 1),q = p ++ [x]) := by
 unfold rowK rowJ
 rw [List.take_length]
 have : ∀ (l : List (List UInt8)) (r' : Rws),q ∈ (l.foldl (fun r p => addR k r (p ++ [x])) r') i ↔ q ∈ r' i ∨ (i = k ∧ ∃ p ∈ l,q = p ++ [x]) := by
  intro l
  induction l with
  | nil => intro r'; simp
  | cons p l ih =>
   intro r'
   rw [List.foldl_cons,ih,addR_mem]
   constructor
   ·rintro ((h | ⟨h1,h2⟩) | ⟨h1,p',h2,h3⟩)
    ·exact .inl h
    ·exact .inr ⟨h1,p,List.mem_cons_self,h2⟩
    ·exact .inr ⟨h1,p',List.mem_cons_of_mem _ h2,h3⟩
   ·rintro (h | ⟨h1,p',h2,h3⟩)
    ·exact .inl (.inl h)
    ·rcases List.mem_cons.1 h2 with rfl | h2
     ·exact .inl (.inr ⟨h1,h3⟩)
     ·exact .inr ⟨h1,p',h2,h3⟩
 exact this _ _
theorem rowJ_nodup {x : UInt8} {k i j : Nat} {r : Rws} (h : (r i).Nodup) : (rowJ x k r j i).Nodup := by
 unfold rowJ
 have : ∀ (l : List (List UInt8)) (r' : Rws),(r' i).Nodup → ((l.foldl (fun r p => addR k r (p ++ [x])) r') i).Nodup := by
  intro l
  induction l with
  | nil => intro r' h; exact h
  | cons p l ih => intro r' h; exact ih _ (addR_nodup h)
 exact this _ _ h
theorem rowsD_mem {x : UInt8} : ∀ {d : Nat} {r : Rws} {i : Nat} {q : List UInt8},q ∈ rowsD x r d d i ↔ q ∈ r i ∨ (1 ≤ i ∧ i ≤ d ∧ ∃ p ∈ r (i - 1),q = p ++ [x])
 | 0,r,i,q => by
  rw [rowsD]
  exact ⟨.inl,fun h => h.elim id fun ⟨a,b,_⟩ => absurd a (by omega)⟩
 | d + 1,r,i,q => by
  rw [rowsD,show d + 1 - 1 = d from rfl,rowsD_mem,rowK_mem]
  constructor
  ·rintro ((h | ⟨h1,p,h2,h3⟩) | ⟨h1,h2,p,h3,h4⟩)
   ·exact .inl h
   ·subst h1; exact .inr ⟨by omega,by omega,p,h2,h3⟩
   ·rcases rowK_mem.1 h3 with h5 | ⟨h5,_⟩
    ·exact .inr ⟨h1,by omega,p,h5,h4⟩
    ·omega
  ·rintro (h | ⟨h1,h2,p,h3,h4⟩)
   ·exact .inl (.inl h)
   ·by_cases e : i = d + 1
    ·subst e; exact .inl (.inr ⟨rfl,p,h3,h4⟩)
    ·exact .inr ⟨h1,by omega,p,rowK_mem.2 (.inl h3),h4⟩
theorem rowsD_nodup {x : UInt8} : ∀ {d m : Nat} {r : Rws} {i : Nat},(∀ i,(r i).Nodup) → (rowsD x r d m i).Nodup
 | 0,m,r,i,h => h i
 | d + 1,m,r,i,h => by
  rw [rowsD]
  exact rowsD_nodup fun i => rowJ_nodup (h i)
theorem fold_all {n : Nat} : ∀ {l w : List UInt8} {r : Rws},w.length + l.length ≤ n → (∀ i,(r i).Nodup) → (∀ i q,q ∈ r i ↔ q.Sublist w ∧ q.length = i) →
  (∀ i,((l.foldl (fun r x => rowsD x r n n) r) i).Nodup) ∧ ∀ i q,q ∈ (l.foldl (fun r x => rowsD x r n n) r) i ↔ q.Sublist (w ++ l) ∧ q.length = i
 | [],w,r,hn,h1,h2 => ⟨h1,fun i q => by rw [List.append_nil]; exact h2 i q⟩
 | x :: l,w,r,hn,h1,h2 => by
  rw [List.foldl_cons,show w ++ x :: l = (w ++ [x]) ++ l by simp]
  refine fold_all (w := w ++ [x]) (by simp at hn ⊢; omega) (fun i => rowsD_nodup h1) (fun i q => ?_)
  rw [rowsD_mem]
  constructor
  ·rintro (h | ⟨a,b,p,hp,rfl⟩)
   ·obtain ⟨h3,h4⟩ := (h2 i q).1 h
    exact ⟨h3.trans (List.sublist_append_left _ _),h4⟩
   ·obtain ⟨h3,h4⟩ := (h2 _ p).1 hp
    exact ⟨List.Sublist.append h3 (List.Sublist.refl _),by simp [h4]; omega⟩
  ·rintro ⟨h,hl⟩
   obtain ⟨p1,p2,rfl,h3,h4⟩ := List.sublist_append_iff.1 h
   have h5 : p2 = [] ∨ p2 = [x] := by
    cases h4 with
    | cons _ h4 => left; simpa using h4
    | cons_cons _ h4 => right; simp at h4; rw [h4]
   rcases h5 with rfl | rfl
   ·exact .inl ((h2 i _).2 ⟨by simpa using h3,by simpa using hl⟩)
   ·refine .inr ⟨by simp at hl; omega, ?_,p1,(h2 _ p1).2 ⟨h3,by simp at hl; omega⟩,rfl⟩
    have := h.length_le
    rw [hl] at this
    simp only [List.length_append,List.length_cons,List.length_nil] at this hn
    omega
theorem allR_mem {n : Nat} {l : List UInt8} (hn : l.length ≤ n) : (∀ i,(allR n l i).Nodup) ∧ ∀ i q,q ∈ allR n l i ↔ q.Sublist l ∧ q.length = i := by
 have := fold_all (n := n) (l := l) (w := []) (r := rows0) (by simpa using hn) (fun i => by unfold rows0; split <;> simp) (fun i q => by
  unfold rows0
  split
  ·rename_i h; subst h
   simp
  ·rename_i h
   simp
   intro e; subst e; simpa using fun e => h e.symm)
 simpa [allR] using this
theorem addR_len {k i : Nat} {r : Rws} {p : List UInt8} : (addR k r p i).length ≤ (r i).length + 1 := by
 unfold addR
 split
 ·omega
 ·by_cases e : i = k
  ·subst e; simp
  ·simp [e]
theorem rowJ_len {x : UInt8} {k i : Nat} {r : Rws} {j : Nat} : (rowJ x k r j i).length ≤ (r i).length + j := by
 unfold rowJ
 have : ∀ (l : List (List UInt8)) (q : Rws),((l.foldl (fun r p => addR k r (p ++ [x])) q) i).length ≤ (q i).length + l.length := by
  intro l
  induction l with
  | nil => intro q; simp
  | cons p l ih =>
   intro q
   rw [List.foldl_cons,List.length_cons]
   have h1 := ih (addR k q (p ++ [x]))
   have h2 := @addR_len k i q (p ++ [x])
   omega
 have h1 := this ((r (k - 1)).take j) r
 have h2 : ((r (k - 1)).take j).length ≤ j := by rw [List.length_take]; omega
 omega
theorem rowK_at {x : UInt8} {k i : Nat} {r : Rws} (h : i ≠ k) : rowK x k r i = r i := rowJ_at h
theorem rowsD_len {x : UInt8} {m : Nat} : ∀ {d : Nat} {r : Rws},(∀ i,i ≤ d → (r i).length ≤ m) → (∀ i,(r i).length ≤ 2 * m) → ∀ i,(rowsD x r d d i).length ≤ 2 * m
 | 0,r,_,h2,i => h2 i
 | d + 1,r,h1,h2,i => by
  rw [rowsD,show d + 1 - 1 = d from rfl]
  refine rowsD_len (fun i hi => by rw [rowK_at (by omega)]; exact h1 i (by omega)) (fun i => ?_) i
  by_cases e : i = d + 1
  ·subst e
   have h3 : (rowK x (d + 1) r (d + 1)).length ≤ (r (d + 1)).length + (r d).length := rowJ_len
   have h4 := h1 (d + 1) (Nat.le_refl _)
   have h5 := h1 d (by omega)
   omega
  ·rw [rowK_at e]; exact h2 i
theorem allR_len {n : Nat} : ∀ {l : List UInt8} {r : Rws} {m : Nat},(∀ i,(r i).length ≤ m) → ∀ i,((l.foldl (fun r x => rowsD x r n n) r) i).length ≤ m * 2 ^ l.length
 | [],r,m,h,i => by simpa using h i
 | x :: l,r,m,h,i => by
  rw [List.foldl_cons,List.length_cons,Nat.pow_succ]
  have := allR_len (l := l) (n := n) (r := rowsD x r n n) (m := 2 * m) (fun i => rowsD_len (fun i _ => h i) (fun i => by have := h i; omega) i) i
  rw [show m * (2 ^ l.length * 2) = 2 * m * 2 ^ l.length by rw [Nat.mul_comm (2 ^ l.length) 2,← Nat.mul_assoc,Nat.mul_comm m 2]]
  exact this
theorem allR_bound {n : Nat} {l : List UInt8} (i : Nat) : (allR n l i).length ≤ 2 ^ l.length := by
 have := allR_len (n := n) (l := l) (r := rows0) (m := 1) (fun i => by unfold rows0; split <;> simp) i
 simpa [allR] using this
end Go.Proofs.Ytmnmfmghmenkkaa
set_option linter.unusedSimpArgs false
set_option linter.unusedVariables false
namespace Go.Proofs.Ytmnmfmghmenkkaa
open Go.RowKit
set_option maxRecDepth 100000
theorem encStr_inj {a b : List UInt8} (h : encStr a = encStr b) : a = b := by
 unfold encStr at h
 injection h with h
 injection h with h
 exact List.toArray_inj h
structure RowsAt (B bo n : Nat) (V : Nat → Value) (rows : Nat → List (List UInt8)) (w : World) : Prop where
 out : w.rowIs bo 36 (n + 1) V
 row : ∀ i,i < n + 1 → w.ownsRow B 9 1 (V i) (rows i).length ((rows i).map encStr)
 emp : ∀ i,i < n + 1 → rows i = [] → V i = .slice none 0 0
 len : ∀ i,i < n + 1 → ∀ p ∈ rows i,p.length = i
variable {B bo n : Nat} {V : Nat → Value} {rows : Nat → List (List UInt8)} {w w' : World}
theorem owned_first {v : Value} {l : List (List UInt8)} {g : Nat} (h : w.ownsRow B 9 1 v l.length (l.map encStr)) (hl : l ≠ []) (hg : v.ownBlock = some g) : ∃ cur fr,w.heap[g]? = some (.cells cur 9 fr) ∧ cur.toList.head? = some (encStr (l.head hl)) := by
 rcases h.2 with ⟨e,_⟩ | ⟨g',cap,cur,rfl,_,hb,hn,_,hs,ht⟩
 ·rw [e] at hg; cases hg
 ·cases hg
  refine ⟨cur,_,hb, ?_⟩
  cases l with
  | nil => exact absurd rfl hl
  | cons p l =>
   have := congrArg List.head? ht
   rw [List.head?_take,if_neg (by simp)] at this
   rw [this]
   rfl
theorem RowsAt.apart (h : RowsAt B bo n V rows w) {i j : Nat} (hi : i < n + 1) (hj : j < n + 1) (hne : i ≠ j) {g : Nat} (e1 : (V i).ownBlock = some g) : (V j).ownBlock ≠ some g := by
 intro e2
 have hi0 : rows i ≠ [] := fun e => by rw [h.emp i hi e] at e1; cases e1
 have hj0 : rows j ≠ [] := fun e => by rw [h.emp j hj e] at e2; cases e2
 obtain ⟨c1,f1,a1,b1⟩ := owned_first (h.row i hi) hi0 e1
 obtain ⟨c2,f2,a2,b2⟩ := owned_first (h.row j hj) hj0 e2
 rw [a1] at a2
 cases a2
 rw [b1] at b2
 have e := encStr_inj (Option.some.inj b2)
 have l1 := h.len i hi _ (List.head_mem hi0)
 have l2 := h.len j hj _ (List.head_mem hj0)
 rw [e] at l1
 omega
theorem RowsAt.ne_out (h : RowsAt B bo n V rows w) {i : Nat} (hi : i < n + 1) : (V i).ownBlock ≠ some bo := by
 intro e
 have hi0 : rows i ≠ [] := fun e' => by rw [h.emp i hi e'] at e; cases e
 obtain ⟨c1,f1,a1,b1⟩ := owned_first (h.row i hi) hi0 e
 obtain ⟨c,hb,_⟩ := h.out
 rw [a1] at hb
 cases hb
theorem RowsAt.kept (h : RowsAt B bo n V rows w) {row : Option Nat} (hg : w.grownBy w' row) (h1 : row ≠ some bo) (h2 : ∀ i,i < n + 1 → (V i).ownBlock = none ∨ (V i).ownBlock ≠ row) : RowsAt B bo n V rows w' :=
 ⟨h.out.of_block (hg.block bo h.out.lt (fun e => h1 e.symm)),fun i hi => (h.row i hi).kept hg (h2 i hi),h.emp,h.len⟩
theorem RowsAt.alloc (h : RowsAt B bo n V rows w) (o : Obj) : RowsAt B bo n V rows (w.alloc o) :=
 ⟨h.out.alloc o,fun i hi => (h.row i hi).alloc o,h.emp,h.len⟩
theorem RowsAt.push (h : RowsAt B bo n V rows w) {k : Nat} (hk : k < n + 1) {p : List UInt8} (hp : p.length = k) {v' : Value} (hg : w.grownBy w' (V k).ownBlock) (hown : w'.ownsRow B 9 1 v' ((rows k).length + 1) ((rows k).map encStr ++ [encStr p])) :
  RowsAt B bo n (fun i => if i = k then v' else V i) (fun i => if i = k then rows k ++ [p] else rows i) (w'.setCell ⟨bo,k,none⟩ v') := by
 have hout : w'.rowIs bo 36 (n + 1) V := h.out.of_block (hg.block bo h.out.lt (fun e => h.ne_out hk e.symm))
 have hset : ∀ {v : Value} {l : List (List UInt8)},l ≠ [] ∨ v = .slice none 0 0 → w'.ownsRow B 9 1 v l.length (l.map encStr) → (w'.setCell ⟨bo,k,none⟩ v').ownsRow B 9 1 v l.length (l.map encStr) := by
  intro v l hl hv
  rcases hv.2 with ⟨e,e0⟩ | ⟨g,cap,cur,rfl,hB,hb,hr⟩
  ·exact ⟨hv.1,.inl ⟨e,e0⟩⟩
  ·refine ⟨hv.1,.inr ⟨g,cap,cur,rfl,hB, ?_,hr⟩⟩
   have hne : g ≠ bo := by
    rintro rfl
    obtain ⟨c,hc,_⟩ := hout
    rw [hb] at hc
    cases hc
   rw [Below.heap_setCell _ _ _ _ hne]
   exact hb
 refine ⟨hout.set k v',fun i hi => ?_,fun i hi e => ?_,fun i hi q hq => ?_⟩
 ·by_cases e : i = k
  ·subst e
   simp only [if_true]
   exact hset (.inl (by simp)) (by simpa using hown)
  ·simp only [if_neg e]
   refine hset ?_ ((h.row i hi).kept hg ?_)
   ·by_cases e0 : rows i = []
    ·exact .inr (h.emp i hi e0)
    ·exact .inl e0
   ·cases e1 : (V i).ownBlock with
    | none => exact .inl rfl
    | some g => exact .inr (fun e2 => h.apart hi hk e e1 e2.symm)
 ·by_cases e1 : i = k
  ·subst e1; simp at e
  ·simp only [if_neg e1] at e ⊢; exact h.emp i hi e
 ·by_cases e1 : i = k
  ·subst e1
   simp only [if_true] at hq
   rcases List.mem_append.1 hq with hq | hq
   ·exact h.len i hi q hq
   ·rw [List.mem_singleton.1 hq]; exact hp
  ·simp only [if_neg e1] at hq; exact h.len i hi q hq
theorem RowsAt.ne_obj (h : RowsAt B bo n V rows w) {i : Nat} (hi : i < n + 1) {g : Nat} {o : Obj} (hm : w.heap[g]? = some o) (ho : ∀ c t fr,o ≠ .cells c t fr) : (V i).ownBlock ≠ some g := by
 intro e
 have hi0 : rows i ≠ [] := fun e' => by rw [h.emp i hi e'] at e; cases e
 obtain ⟨c1,f1,a1,b1⟩ := owned_first (h.row i hi) hi0 e
 rw [a1] at hm
 exact ho _ _ _ (Option.some.inj hm).symm
theorem RowsAt.out_obj (h : RowsAt B bo n V rows w) {g : Nat} {o : Obj} (hm : w.heap[g]? = some o) (ho : ∀ c t fr,o ≠ .cells c t fr) : g ≠ bo := by
 rintro rfl
 obtain ⟨c,hb,_⟩ := h.out
 rw [hb] at hm
 exact ho _ _ _ (Option.some.inj hm).symm
theorem RowsAt.redo (h : RowsAt B bo n V rows w) {k : Nat} (hk : k < n + 1) {ts : List (List UInt8)} (hl : ts.length = (rows k).length) (hm : ∀ p ∈ ts,p.length = k) (h0 : rows k ≠ []) (hg : w.grownBy w' (V k).ownBlock)
  (hown : w'.ownsRow B 9 1 (V k) ts.length (ts.map encStr)) : RowsAt B bo n V (fun i => if i = k then ts else rows i) w' := by
 refine ⟨h.out.of_block (hg.block bo h.out.lt (fun e => h.ne_out hk e.symm)),fun i hi => ?_,fun i hi e => ?_,fun i hi q hq => ?_⟩
 ·by_cases e : i = k
  ·subst e
   simp only [if_true]
   exact hown
  ·simp only [if_neg e]
   refine (h.row i hi).kept hg ?_
   cases e1 : (V i).ownBlock with
   | none => exact .inl rfl
   | some g => exact .inr (fun e2 => h.apart hi hk e e1 e2.symm)
 ·by_cases e1 : i = k
  ·subst e1
   simp only [if_true] at e
   rw [e] at hl
   exact absurd (List.length_eq_zero_iff.1 hl.symm) h0
  ·simp only [if_neg e1] at e; exact h.emp i hi e
 ·by_cases e1 : i = k
  ·subst e1
   simp only [if_true] at hq
   exact hm q hq
  ·simp only [if_neg e1] at hq; exact h.len i hi q hq
end Go.Proofs.Ytmnmfmghmenkkaa
set_option linter.unusedSimpArgs false
set_option linter.unusedVariables false
namespace Go.Proofs.Ytmnmfmghmenkkaa
open Go.RowKit Go.Abs Go.Pur
set_option maxRecDepth 1000000
set_option maxHeartbeats 8000000
theorem alook_run {P : Program} {w : World} {t : TypeId} {k v : Value} {es : List MapEntry} {c r : Nat} {ok : Bool} (hr : w.heap[r]? = some (.map es.toArray c)) (ha : alook P t es k ok = some v) : (Instr.lookup t (.map (some r)) k ok).run P w = .ok v w := by
 unfold alook at ha
 split at ha
 ·rename_i kt et ht
  have hu := mapTy_some ht
  split at ha
  ·rename_i i u hf
   obtain ⟨c1,c2⟩ := run_afind hf w
   split at ha
   ·cases ha
    simp [Instr.lookup,run_underlying hu,getObj,hr,Sem.run,c1,c2,Result.andThen,lookRes]
    cases ok <;> rfl
   ·cases ha
  ·rename_i hf
   split at ha
   ·rename_i z hz
    split at ha
    ·cases ha
     obtain ⟨c1,c2⟩ := run_afind hf w
     have c3 := run_azero hz w
     simp [Instr.lookup,run_underlying hu,getObj,hr,Sem.run,c1,c2,c3,Result.andThen,lookRes]
     cases ok <;> rfl
    ·cases ha
   ·cases ha
  ·cases ha
 ·cases ha
def S61 (w0 : World) (n : Nat) (r : Rws) (w : World) : Prop := ∃ (V : Nat → Value) (m : Mp (List UInt8) Bool) (c : Nat),RowsAt w0.heap.size (w0.heap.size + 1) n V r w ∧ w.heap[w0.heap.size]? = some (.map (mE sV Value.bool m).toArray c) ∧
 (∀ p : List UInt8,p.length ≤ n → mGetD false p m = decide (p ∈ r p.length)) ∧ Below w0.heap.size w0 w
theorem enc_ascii {x : UInt8} (h : x.toNat < 128) : Utf8.encode (x.toNat : Int) = ⟨#[x]⟩ := by
 have hv : Utf8.valid (x.toNat : Int) = true := by
  unfold Utf8.valid
  simp
  omega
 unfold Utf8.encode
 simp only [hv,if_true,Int.toNat_natCast]
 rw [if_pos (by omega)]
 simp
theorem add_ascii {p : List UInt8} {x : UInt8} : (⟨p.toArray⟩ : ByteArray) ++ ⟨#[x]⟩ = ⟨(p ++ [x]).toArray⟩ := by
 apply ByteArray.ext
 simp
theorem RowsAt.ne_map {B bo n mb : Nat} {V : Nat → Value} {rows : Nat → List (List UInt8)} {w : World} {es : Array MapEntry} {c : Nat} (h : RowsAt B bo n V rows w) {i : Nat} (hi : i < n + 1) (hm : w.heap[mb]? = some (.map es c)) : (V i).ownBlock ≠ some mb := by
 intro e
 have hi0 : rows i ≠ [] := fun e' => by rw [h.emp i hi e'] at e; cases e
 obtain ⟨c1,f1,a1,b1⟩ := owned_first (h.row i hi) hi0 e
 rw [a1] at hm
 cases hm
theorem S61.iter {w0 : World} {n : Nat} {r : Rws} {w : World} {k pos : Nat} {s : ByteArray} (h : S61 w0 n r w) (hk : w.heap[k]? = some (.stringIter s pos)) (hB : w0.heap.size ≤ k) (pos' : Nat) : S61 w0 n r (w.iterAt k s pos') := by
 obtain ⟨V,m,c,h1,h2,h3,h4⟩ := h
 have hg : w.grownBy (w.iterAt k s pos') (some k) := ⟨rfl,rfl,rfl,by rw [Lib.iterAt_size]; exact Nat.le_refl _,fun j hj hne => Lib.iterAt_other w k j s pos' (fun e => hne (by rw [e]))⟩
 refine ⟨V,m,c,h1.kept hg (fun e => ?_) (fun i hi => ?_), ?_,h3,Lib.below_iterAt h4 hB s pos'⟩
 ·exact h1.out_obj hk (fun _ _ _ e => by cases e) (Option.some.inj e)
 ·cases e1 : (V i).ownBlock with
  | none => exact .inl rfl
  | some g => exact .inr (fun e2 => h1.ne_obj hi hk (fun _ _ _ e => by cases e) (e1.trans e2))
 ·rw [Lib.iterAt_other]
  ·exact h2
  ·rintro rfl
   rw [h2] at hk
   cases hk
theorem mGet_set61 {K V : Type} [DecidableEq K] {c : Nat} {k k' : K} {v : V} : ∀ {l : Mp K V},mGet k (mSet c k' v l) = if k' = k then some v else mGet k l
 | [] => by
  simp only [mSet,mGet]
  by_cases h : k' = k
  ·rw [decide_eq_true h,if_pos h]
  ·rw [decide_eq_false h,if_neg h]
 | e :: l => by
  rw [mSet]
  by_cases h1 : e.1 = k'
  ·rw [decide_eq_true h1]
   simp only [mGet]
   by_cases h : k' = k
   ·rw [decide_eq_true h,if_pos h]
   ·rw [decide_eq_false h,if_neg h,decide_eq_false (show ¬ e.1 = k by rw [h1]; exact h)]
  ·rw [decide_eq_false h1]
   simp only [mGet,mGet_set61 (l := l)]
   by_cases h : k' = k
   ·subst h
    rw [decide_eq_false h1]
   ·rw [if_neg h,if_neg h]
theorem mGetD_set {c : Nat} {k k' : List UInt8} {l : Mp (List UInt8) Bool} : mGetD false k (mSet c k' true l) = if k' = k then true else mGetD false k l := by
 unfold mGetD
 rw [mGet_set61]
 split <;> rfl
def srtT (t : Nat) (r : Rws) : Rws := fun i => if i < t then srt (r i) else r i
theorem srt_len {l : List (List UInt8)} : (srt l).length = l.length := by simp [srt]
theorem srt_mem {l : List (List UInt8)} {p : List UInt8} : p ∈ srt l ↔ p ∈ l := List.mem_mergeSort
theorem srtT_succ {t : Nat} {r : Rws} : (fun i => if i = t then srt (srtT t r t) else srtT t r i) = srtT (t + 1) r := by
 funext i
 unfold srtT
 by_cases e : i = t
 ·subst e
  rw [if_pos rfl,if_neg (Nat.lt_irrefl _),if_pos (Nat.lt_succ_self _)]
 ·rw [if_neg e]
  by_cases e2 : i < t
  ·rw [if_pos e2,if_pos (by omega)]
  ·rw [if_neg e2,if_neg (by omega)]
theorem own_ge {w : World} {B e n : Nat} {v : Value} {xs : List Value} {g : Nat} (h : w.ownsRow B e 1 v n xs) (hg : v.ownBlock = some g) : B ≤ g := by
 rcases h.2 with ⟨e1,_⟩ | ⟨g',cap,cur,rfl,hb,_⟩
 ·rw [e1] at hg; cases hg
 ·cases hg; exact hb
theorem srtT_zero {r : Rws} : srtT 0 r = r := by
 funext i
 unfold srtT
 rw [if_neg (Nat.not_lt_zero _)]
theorem own_some {w : World} {B e n : Nat} {v : Value} {xs : List Value} (h : w.ownsRow B e 1 v n xs) (hn : n ≠ 0) : ∃ g cap cur,v = .slice (some ⟨g,0,none⟩) n cap ∧ B ≤ g ∧ w.heap[g]? = some (.cells cur e (0,0)) ∧ n ≤ cap ∧ cap ≤ maxLen ∧ cur.size = cap * 1 ∧ cur.toList.take (n * 1) = xs := by
 rcases h.2 with ⟨_,e0⟩ | ⟨g,cap,cur,h1⟩
 ·exact absurd e0 hn
 ·exact ⟨g,cap,cur,h1⟩
theorem S61.start {w w1 : World} {n : Nat} {s : ByteArray} (hz1 : w1.heap.size = w.heap.size + 1) (hm1 : w1.heap[w.heap.size]? = some (.map (mE sV Value.bool [([],true,0)]).toArray 1)) (hb1 : Below w.heap.size w w1) :
  S61 w n rows0 (((w1.alloc (.cells ((madeCells #[.slice none 0 0] (n + 1)).setIfInBounds 0 (.slice (some ⟨w.heap.size + 1 + 1,0,none⟩) 1 1)) 36)).alloc (.cells #[.string ⟨#[]⟩] 9)).iter s 0) := by
 obtain ⟨C,hC⟩ : ∃ C,(madeCells #[.slice none 0 0] (n + 1)).setIfInBounds 0 (.slice (some ⟨w.heap.size + 1 + 1,0,none⟩) 1 1) = C := ⟨_,rfl⟩
 have hCs : C.size = n + 1 := by rw [← hC]; simp [size_madeCells]
 have hCi : ∀ i,i < n + 1 → C[i]? = some (if i = 0 then .slice (some ⟨w.heap.size + 2,0,none⟩) 1 1 else .slice none 0 0) := fun i hi => by
  rw [← hC,Array.getElem?_setIfInBounds]
  by_cases e : i = 0
  ·subst e
   rw [if_pos rfl,if_pos (by simp [size_madeCells]),if_pos rfl]
  ·rw [if_neg (fun h => e h.symm),if_neg e]
   simp [madeCells,hi,Nat.mod_one]
 rw [hC]
 have z1 : (w1.alloc (.cells C 36)).heap.size = w.heap.size + 2 := by simp [hz1]
 have z2 : ((w1.alloc (.cells C 36)).alloc (.cells #[.string ⟨#[]⟩] 9)).heap.size = w.heap.size + 3 := by simp [hz1]
 have q0 : (((w1.alloc (.cells C 36)).alloc (.cells #[.string ⟨#[]⟩] 9)).iter s 0).heap[w.heap.size]? = some (.map (mE sV Value.bool [([],true,0)]).toArray 1) := by
  show (((w1.alloc (.cells C 36)).alloc (.cells #[.string ⟨#[]⟩] 9)).alloc (.stringIter s 0)).heap[w.heap.size]? = _
  rw [heap_alloc_old _ _ (by omega),heap_alloc_old _ _ (by omega),heap_alloc_old _ _ (by omega)]
  exact hm1
 have q1 : (((w1.alloc (.cells C 36)).alloc (.cells #[.string ⟨#[]⟩] 9)).iter s 0).heap[w.heap.size + 1]? = some (.cells C 36) := by
  show (((w1.alloc (.cells C 36)).alloc (.cells #[.string ⟨#[]⟩] 9)).alloc (.stringIter s 0)).heap[w.heap.size + 1]? = _
  rw [heap_alloc_old _ _ (by omega),heap_alloc_old _ _ (by omega),← hz1]
  exact heap_alloc_new _ _
 have q2 : (((w1.alloc (.cells C 36)).alloc (.cells #[.string ⟨#[]⟩] 9)).iter s 0).heap[w.heap.size + 2]? = some (.cells #[.string ⟨#[]⟩] 9) := by
  show (((w1.alloc (.cells C 36)).alloc (.cells #[.string ⟨#[]⟩] 9)).alloc (.stringIter s 0)).heap[w.heap.size + 2]? = _
  rw [heap_alloc_old _ _ (by omega),← z1]
  exact heap_alloc_new _ _
 refine ⟨fun i => if i = 0 then .slice (some ⟨w.heap.size + 2,0,none⟩) 1 1 else .slice none 0 0,[([],true,0)],1,⟨⟨C,q1,hCs,hCi⟩,fun i hi => ?_,fun i hi h => ?_,fun i hi p hp => ?_⟩,q0,fun p hp => ?_, ?_⟩
 ·by_cases e : i = 0
  ·subst e
   rw [if_pos rfl]
   exact ⟨rfl,.inr ⟨w.heap.size + 2,1,_,rfl,by omega,q2,Nat.le_refl _,by unfold maxLen; omega,rfl,rfl⟩⟩
  ·have : rows0 i = [] := if_neg e
   rw [this,if_neg e]
   exact ⟨rfl,.inl ⟨rfl,rfl⟩⟩
 ·by_cases e : i = 0
  ·subst e; cases h
  ·exact if_neg e
 ·by_cases e : i = 0
  ·subst e
   rw [List.mem_singleton.1 hp]; rfl
  ·rw [show rows0 i = [] from if_neg e] at hp; cases hp
 ·cases p with
  | nil => rfl
  | cons c p =>
   rw [show rows0 (c :: p).length = [] from if_neg (by simp)]
   simp [mGetD,mGet]
 ·exact ((hb1.alloc (by omega) _).alloc (by omega) _).alloc (by omega) _
theorem hid61 {p : Prop} (h : p) : Hid p := h
theorem all_calls (s : ByteArray) (w : World) (hs : s.size ≤ 10) (ha : ∀ x ∈ s.data.toList,x.toNat < 128) :
  Calls Try.prog 61 #[.string s] w fun e w' => ∃ V,e = .returned (.slice (some ⟨w.heap.size + 1,0,none⟩) (s.size + 1) (s.size + 1)) ∧ Below w.heap.size w w' ∧ RowsAt w.heap.size (w.heap.size + 1) s.size V (srtT (s.size + 1) (allR s.size s.data.toList)) w' := by
 have mixed : Try.prog.follows .mixedOrders = true := by kernel_rfl
 have hmm := fun w => run_makeMap (P := Try.prog) 102 w
 have mty : mapTy Try.prog 102 = some (9,4) := by kernel_rfl
 have kty : KeyT Try.prog 9 sV := key_str Try.underlying9
 have hins : (Instr.mapUpdate 102 (.map (some w.heap.size)) (.string ⟨#[]⟩) (.bool true)).run Try.prog (w.alloc (.map #[] 0)) = .ok () (itSet (w.alloc (.map #[] 0)) w.heap.size (.map (mE sV Value.bool [([],true,0)]).toArray 1)) :=
  aupd_run (es := mE sV Value.bool []) (c := 0) (heap_alloc_new w _) (upd_m (kf := sV) (vf := Value.bool) (l := []) (k := []) (v := true) (c := 0) mty kty)
 have hmk := fun n => run_make_row' (P := Try.prog) 79 36 (.slice none 0 0) 24 Try.underlying79 (by kernel_rfl) rfl .i64 .i64 n
 have hmk1 : ∀ w,(Instr.makeSlice 79 (.int .i64 ((s.size : Int) + 1)) (.int .i64 ((s.size : Int) + 1))).run Try.prog w = .ok (.slice (some ⟨w.heap.size,0,none⟩) (s.size + 1) (s.size + 1)) (w.alloc (.cells (madeCells #[.slice none 0 0] (s.size + 1)) 36)) := fun w => by
  have := hmk (s.size + 1) (by omega) (by omega) w
  rwa [show ((s.size + 1 : Nat) : Int) = (s.size : Int) + 1 by omega] at this
 clear hmk
 obtain ⟨w1,hw1⟩ : ∃ w1,itSet (w.alloc (.map #[] 0)) w.heap.size (.map (mE sV Value.bool [([],true,0)]).toArray 1) = w1 := ⟨_,rfl⟩
 have hz1 : w1.heap.size = w.heap.size + 1 := by rw [← hw1]; simp [itSet]
 have hm1 : w1.heap[w.heap.size]? = some (.map (mE sV Value.bool [([],true,0)]).toArray 1) := by
  rw [← hw1]
  simp [itSet]
 have hb1 : Below w.heap.size w w1 := by
  rw [← hw1]
  refine ⟨rfl,rfl,rfl,by simp [itSet],fun k hk => ?_⟩
  simp only [itSet]
  rw [Array.getElem?_setIfInBounds,if_neg (by omega)]
  exact heap_alloc_old _ _ hk
 rw [hw1] at hins
 clear hw1
 have hrow := (World.rowIs_made w1 (.slice none 0 0) (s.size + 1) 36).alloc (.cells #[.string ⟨#[]⟩] 9)
 rw [hz1] at hrow
 have hcell0 := hrow.cell (i := 0) (by omega)
 have hfr0 := hrow.frozen 0
 go_enter Try.func61,Try.ntmps61
 go_wp2_with fail
 go_loopg [] s.size (fun gk wx => ∃ pos : Nat,S61 w s.size (allR s.size (s.data.toList.take pos)) wx ∧ wx.heap[w.heap.size + 3]? = some (.stringIter s pos) ∧ s.size ≤ pos + gk ∧ pos ≤ s.size)
 case atStart =>
  refine ⟨0, ?_, ?_,by omega,by omega⟩
  ·exact S61.start hz1 hm1 hb1
  ·have z2 : ((w1.alloc (.cells ((madeCells #[.slice none 0 0] (s.size + 1)).setIfInBounds 0 (.slice (some ⟨w.heap.size + 1 + 1,0,none⟩) 1 1)) 36)).alloc (.cells #[.string ⟨#[]⟩] 9)).heap.size = w.heap.size + 3 := by simp [hz1]
   rw [← z2]
   exact heap_alloc_new _ _
 case round =>
  obtain ⟨pos,hS,hit,hfu,hps⟩ := hrel
  by_cases hlt : pos < s.size
  ·obtain ⟨g',rfl⟩ : ∃ g',gk = g' + 1 := ⟨gk - 1,by omega⟩
   obtain ⟨x,hxe⟩ : ∃ x,s[pos]'hlt = x := ⟨_,rfl⟩
   have hlen : s.data.toList.length = s.size := by simp
   have hxl : s.data.toList[pos]? = some x := by
    rw [List.getElem?_eq_getElem (by rw [hlen]; exact hlt),← hxe]
    rfl
   have hx1 : x.toNat < 128 := ha x (List.mem_of_getElem? hxl)
   have hnx : ∀ ty,(Instr.next (.pointer (some ⟨w.heap.size + 3,0,none⟩)) true ty).run Try.prog wr = _ := fun ty => Lib.run_next_ascii_at wr (w.heap.size + 3) s pos ty hit hlt (by rw [hxe]; exact hx1)
   rw [hxe] at hnx
   obtain ⟨W,hWd⟩ : ∃ W,wr.iterAt (w.heap.size + 3) s (pos + 1) = W := ⟨_,rfl⟩
   have hS2 : S61 w s.size (allR s.size (s.data.toList.take pos)) W := by rw [← hWd]; exact hS.iter hit (by omega) _
   have hit2 : W.heap[w.heap.size + 3]? = some (.stringIter s (pos + 1)) := by rw [← hWd]; exact Lib.iterAt_heap wr _ s pos _ hit
   rw [hWd] at hnx
   have HS := hid61 hS2
   clear hS hS2 hit hWd
   obtain ⟨R,hR⟩ : ∃ R,allR s.size (s.data.toList.take pos) = R := ⟨_,rfl⟩
   have hRb : ∀ i,(R i).length ≤ 1024 := fun i => by
    have h1 := @allR_bound s.size (s.data.toList.take pos) i
    rw [hR] at h1
    have h2 : 2 ^ (s.data.toList.take pos).length ≤ 2 ^ 10 := Nat.pow_le_pow_right (by decide) (by rw [List.length_take]; omega)
    exact Nat.le_trans h1 h2
   have HRb := hid61 hRb
   clear hRb
   rw [hR] at HS
   go_wp2_with fail
   go_loopg [7] s.size (fun gk2 s7 wx => ∃ (d : Nat) (cur : Rws),s7 = .int .i64 d ∧ d ≤ s.size ∧ d ≤ gk2 ∧ S61 w s.size cur wx ∧ rowsD x cur d d = rowsD x R s.size s.size ∧ (∀ i,i ≤ d → cur i = R i) ∧ wx.heap[w.heap.size + 3]? = some (.stringIter s (pos + 1)))
   case atStart => exact ⟨s.size,R,rfl,Nat.le_refl _,Nat.le_refl _,HS.out,rfl,fun _ _ => rfl,hit2⟩
   case round =>
    obtain ⟨d,cur,rfl,hd,hdg,hS,hcur,hold,hit⟩ := hrel
    have Hold := hid61 hold
    clear hold
    cases d with
    | zero =>
     have HS3 := hid61 hS
     have Hcur := hid61 hcur
     clear hS hcur HS
     go_wp2_with fail
     go_roundg g'
     case measure => omega
     case rel =>
      refine ⟨pos + 1, ?_,hit,by omega,by omega⟩
      have h1 : allR s.size (s.data.toList.take (pos + 1)) = rowsD x R s.size s.size := by
       rw [List.take_add_one,hxl,← hR]
       simp [allR,List.foldl_append]
      rw [h1,← Hcur.out]
      exact HS3.out
    | succ d =>
     obtain ⟨g2,rfl⟩ : ∃ g2,gk = g2 + 1 := ⟨gk - 1,by omega⟩
     obtain ⟨V,m,c,hR1,hM1,hmet,hbel⟩ := hS
     have hcellV := hR1.out.cell (i := d) (by omega)
     have hVd := hR1.row d (by omega)
     obtain ⟨ao,cap,hVf⟩ : ∃ ao cap,V d = .slice ao (cur d).length cap := by
      rcases hVd.2 with ⟨e1,e2⟩ | ⟨g,cap,_,e1,_⟩
      ·exact ⟨none,0,by rw [e1,e2]⟩
      ·exact ⟨_,_,e1⟩
     rw [hVf] at hcellV
     have e1 : ((d + 1 : Nat) : Int) - 1 = (d : Int) := by omega
     go_wp2_with fail
     go_loopg [38] (cur d).length (fun gk3 s38 wx => ∃ (j : Nat) (V : Nat → Value) (m : Mp (List UInt8) Bool) (c : Nat),s38 = .int .i64 j ∧ j ≤ (cur d).length ∧ (cur d).length ≤ j + gk3 ∧ V d = .slice ao (cur d).length cap ∧
      RowsAt w.heap.size (w.heap.size + 1) s.size V (rowJ x (d + 1) cur j) wx ∧ wx.heap[w.heap.size]? = some (.map (mE sV Value.bool m).toArray c) ∧
      (∀ p : List UInt8,p.length ≤ s.size → mGetD false p m = decide (p ∈ rowJ x (d + 1) cur j p.length)) ∧ Below w.heap.size w wx ∧ wx.heap[w.heap.size + 3]? = some (.stringIter s (pos + 1)))
     case atStart => exact ⟨0,V,m,c,rfl,Nat.zero_le _,by omega,hVf,hR1,hM1,hmet,hbel,hit⟩
     case round =>
      clear hR1 hM1 hmet hbel hVf hVd hcellV hit
      obtain ⟨j,V,m,c,rfl,hj,hjg,hVf,hR1,hM1,hmet,hbel,hit⟩ := hrel
      by_cases hjl : j < (cur d).length
      ·obtain ⟨g3,rfl⟩ : ∃ g3,gk = g3 + 1 := ⟨gk - 1,by omega⟩
       have hrd : rowJ x (d + 1) cur j d = cur d := rowJ_at (by omega)
       have hown := hR1.row d (by omega)
       rw [hrd,hVf] at hown
       obtain ⟨g,rfl⟩ : ∃ g,ao = some ⟨g,0,none⟩ := by
        rcases hown.2 with ⟨e1,e2⟩ | ⟨g,cap',_,e1,_⟩
        ·omega
        ·injection e1 with e1; exact ⟨g,e1⟩
       have hjm : (cur d).length ≤ 9223372036854775807 := by
        rcases hown.2 with ⟨e1,e2⟩ | ⟨_,cap',_,e1,_,_,h1,h2,_⟩
        ·omega
        ·unfold maxLen at h2; omega
       obtain ⟨p,hp⟩ : ∃ p,(cur d)[j]? = some p := ⟨_,List.getElem?_eq_getElem hjl⟩
       have hcellp : wr.cell? ⟨g,j,none⟩ = some (.string ⟨p.toArray⟩) := by
        rw [hown.cellAt j (by omega),List.getElem?_map,hp]
        rfl
       have hcellV := hR1.out.cell (i := d + 1) (by omega)
       have HR1 := hid61 hR1
       have Hmet := hid61 hmet
       have Hown := hid61 hown
       have Hcur := hid61 hcur
       have henc := enc_ascii hx1
       have hadd : (⟨p.toArray⟩ : ByteArray) ++ ⟨#[x]⟩ = ⟨(p ++ [x]).toArray⟩ := add_ascii
       have hplen : p.length = d := by
        have h := hR1.len d (by omega)
        rw [hrd] at h
        exact h p (List.mem_of_getElem? hp)
       have hpx : (p ++ [x]).length = d + 1 := by simp [hplen]
       have hlook : (Instr.lookup 102 (.map (some w.heap.size)) (.string ⟨(p ++ [x]).toArray⟩) false).run Try.prog wr = .ok (.bool (mGetD false (p ++ [x]) m)) wr :=
        alook_run hM1 (look_m (kf := sV) (vf := Value.bool) (l := m) (k := p ++ [x]) (d := false) mty kty (by kernel_rfl) (fun _ => rfl) (ok := false))
       have HM1 := hid61 hM1
       have Hp := hid61 hp
       clear hR1 hmet hown hcur HS hR hxl hrow hcell0 hfr0 hM1 hp hm1 hins hmm hmk1
       have hpl63 : ¬ (9223372036854775807 < p.length + 1) := by omega
       have hsucc : rowJ x (d + 1) cur (j + 1) = addR (d + 1) (rowJ x (d + 1) cur j) (p ++ [x]) := rowJ_succ (by simpa using Hp.out)
       have Hsucc := hid61 hsucc
       clear hsucc
       cases hmt : mGetD false (p ++ [x]) m with
       | true =>
        rw [hmt] at hlook
        have hmem : p ++ [x] ∈ rowJ x (d + 1) cur j (d + 1) := by
         have h := Hmet.out (p ++ [x]) (by omega)
         rw [hmt,hpx] at h
         exact of_decide_eq_true h.symm
        have hsame : rowJ x (d + 1) cur (j + 1) = rowJ x (d + 1) cur j := by
         rw [Hsucc.out]
         unfold addR
         rw [if_pos hmem]
        have Hsame := hid61 hsame
        clear hsame hmem
        go_wp2_with fail
        go_roundg g3
        case measure => omega
        case rel => exact ⟨j + 1,V,m,c,by rw [show ((j + 1 : Nat) : Int) = (j : Int) + 1 by omega],by omega,by omega,hVf,by rw [Hsame.out]; exact HR1.out,HM1.out,by rw [Hsame.out]; exact Hmet.out,hbel,hit⟩
       | false =>
        rw [hmt] at hlook
        have hnew : p ++ [x] ∉ rowJ x (d + 1) cur j (d + 1) := by
         have h := Hmet.out (p ++ [x]) (by omega)
         rw [hmt,hpx] at h
         exact of_decide_eq_false h.symm
        have hupd : (Instr.mapUpdate 102 (.map (some w.heap.size)) (.string ⟨(p ++ [x]).toArray⟩) (.bool true)).run Try.prog wr = .ok () (itSet wr w.heap.size (.map (mE sV Value.bool (mSet c (p ++ [x]) true m)).toArray (mClk c (p ++ [x]) m))) :=
         aupd_run HM1.out (upd_m (kf := sV) (vf := Value.bool) (l := m) (k := p ++ [x]) (v := true) (c := c) mty kty)
        obtain ⟨wu,hwu⟩ : ∃ wu,itSet wr w.heap.size (.map (mE sV Value.bool (mSet c (p ++ [x]) true m)).toArray (mClk c (p ++ [x]) m)) = wu := ⟨_,rfl⟩
        rw [hwu] at hupd
        have hlt0 : w.heap.size < wr.heap.size := (Array.getElem?_eq_some_iff.1 HM1.out).1
        have hgu : wr.grownBy wu (some w.heap.size) := by
         rw [← hwu]
         refine ⟨rfl,rfl,rfl,by simp [itSet],fun k hk hne => ?_⟩
         simp only [itSet]
         rw [Array.getElem?_setIfInBounds,if_neg (fun e => hne (by rw [e]))]
        have hmu : wu.heap[w.heap.size]? = some (.map (mE sV Value.bool (mSet c (p ++ [x]) true m)).toArray (mClk c (p ++ [x]) m)) := by
         rw [← hwu]
         simp [itSet,hlt0]
        have hRu : RowsAt w.heap.size (w.heap.size + 1) s.size V (rowJ x (d + 1) cur j) wu := HR1.out.kept hgu (by simp) (fun i hi => by
         cases e1 : (V i).ownBlock with
         | none => exact .inl rfl
         | some g' => exact .inr (fun e2 => HR1.out.ne_map hi HM1.out (e1.trans e2)))
        have hitu : wu.heap[w.heap.size + 3]? = some (.stringIter s (pos + 1)) := by
         rw [hgu.block _ (Array.getElem?_eq_some_iff.1 hit).1 (by simp)]
         exact hit
        have hbu : Below w.heap.size w wu := hbel.grown hgu (by omega) (fun k hk => by injection hk with hk; omega)
        have hcu := hRu.out.cell (i := d + 1) (by omega)
        have HRu := hid61 hRu
        have Hmu := hid61 hmu
        have Hgu := hid61 hgu
        clear hwu hgu hmu hRu hcellV
        obtain ⟨i0,hi0,hz0,hz1',hz2⟩ := info_parts (show (Try.prog.info? 9).map (fun i => (i.zero,i.size,i.bytes)) = some (some (.string ⟨#[]⟩),1,16) by kernel_rfl)
        have hrk := (HRu.out.row (d + 1) (by omega)).alloc (.cells #[.string ⟨(p ++ [x]).toArray⟩] 9)
        have Hrk := hid61 hrk
        clear hrk
        have hlk : (rowJ x (d + 1) cur j (d + 1)).length ≤ 2048 := by
         have h1 := @rowJ_len x (d + 1) (d + 1) cur j
         have h2 := HRb.out (d + 1)
         have h3 := HRb.out d
         rw [Hold.out (d + 1) (Nat.le_refl _)] at h1
         rw [Hold.out d (by omega)] at hj
         omega
        go_wp2_with (at_builtin; refine wpList_append_own _ rfl _ _ 36 rfl w.heap.size 9 i0 (.string ⟨#[]⟩) 1 16 Try.underlying36 hi0 hz0 hz1' hz2 rfl (by decide) (V (d + 1)) _ _ rfl Hrk.out ⟨wu.heap.size,0,none⟩ 1 1 [.string ⟨(p ++ [x]).toArray⟩] rfl rfl ?c1 ?c2 ?c3 ?c4 ?c5 ?_)
        case c1 => exact cell_one_new _ _ _
        case c2 => exact fun u hu => by rw [List.mem_singleton.1 hu]; rfl
        case c3 => unfold maxLen; omega
        case c4 => omega
        case c5 => exact Nat.le_trans hbu.size (by simp)
        rintro v4 w4 hown4 hg4 -
        obtain ⟨g4,cap4,rfl⟩ : ∃ g4 cap4,v4 = .slice (some ⟨g4,0,none⟩) ((rowJ x (d + 1) cur j (d + 1)).length + 1) cap4 := by
         rcases hown4.2 with ⟨_,e2⟩ | ⟨g4,cap4,cur4,e1,_⟩
         ·omega
         ·exact ⟨g4,cap4,e1⟩
        have hRa := HRu.out.alloc (.cells #[.string ⟨(p ++ [x]).toArray⟩] 9)
        have hrow4 : w4.rowIs (w.heap.size + 1) 36 (s.size + 1) V := hRa.out.of_block (hg4.block _ hRa.out.lt (fun e => hRa.ne_out (by omega) e.symm))
        have hcell4 := hrow4.cell (i := d + 1) (by omega)
        have hfr4 := hrow4.frozen (d + 1)
        have hR4 := hRa.push (k := d + 1) (by omega) hpx hg4 hown4
        have hlt1 : w.heap.size < wu.heap.size := (Array.getElem?_eq_some_iff.1 Hmu.out).1
        have hlt2 : w.heap.size + 3 < wu.heap.size := (Array.getElem?_eq_some_iff.1 hitu).1
        have hm4 : (w4.setCell ⟨w.heap.size + 1,d + 1,none⟩ (.slice (some ⟨g4,0,none⟩) ((rowJ x (d + 1) cur j (d + 1)).length + 1) cap4)).heap[w.heap.size]? = some (.map (mE sV Value.bool (mSet c (p ++ [x]) true m)).toArray (mClk c (p ++ [x]) m)) := by
         rw [Deep.blk_setCell_other _ _ _ _ (by show w.heap.size ≠ w.heap.size + 1; omega),hg4.block _ (by simp; omega) (fun e => HRu.out.ne_obj (by omega) Hmu.out (fun _ _ _ e => by cases e) e.symm),heap_alloc_old _ _ hlt1]
         exact Hmu.out
        have hit4 : (w4.setCell ⟨w.heap.size + 1,d + 1,none⟩ (.slice (some ⟨g4,0,none⟩) ((rowJ x (d + 1) cur j (d + 1)).length + 1) cap4)).heap[w.heap.size + 3]? = some (.stringIter s (pos + 1)) := by
         rw [Deep.blk_setCell_other _ _ _ _ (by show w.heap.size + 3 ≠ w.heap.size + 1; omega),hg4.block _ (by simp; omega) (fun e => HRu.out.ne_obj (by omega) hitu (fun _ _ _ e => by cases e) e.symm),heap_alloc_old _ _ hlt2]
         exact hitu
        have hb4 : Below w.heap.size w (w4.setCell ⟨w.heap.size + 1,d + 1,none⟩ (.slice (some ⟨g4,0,none⟩) ((rowJ x (d + 1) cur j (d + 1)).length + 1) cap4)) :=
         ((hbu.alloc (by omega) _).grown hg4 (by simp; omega) (fun k hk => own_ge (HRu.out.row (d + 1) (by omega)) hk)).setCell (by show w.heap.size ≤ w.heap.size + 1; omega) _
        have hmet4 : ∀ q : List UInt8,q.length ≤ s.size → mGetD false q (mSet c (p ++ [x]) true m) = decide (q ∈ rowJ x (d + 1) cur (j + 1) q.length) := by
         intro q hq
         rw [mGetD_set,Hsucc.out]
         by_cases e : p ++ [x] = q
         ·rw [if_pos e]
          exact (decide_eq_true (addR_mem.2 (.inr ⟨by rw [← e]; exact hpx,e.symm⟩))).symm
         ·rw [if_neg e,Hmet.out q hq]
          exact decide_eq_decide.2 ⟨fun h => addR_mem.2 (.inl h),fun h => (addR_mem.1 h).elim id fun h => absurd h.2.symm e⟩
        have hrows : (fun i => if i = d + 1 then rowJ x (d + 1) cur j (d + 1) ++ [p ++ [x]] else rowJ x (d + 1) cur j i) = rowJ x (d + 1) cur (j + 1) := by
         rw [Hsucc.out]
         unfold addR
         rw [if_neg hnew]
        rw [hrows] at hR4
        have HR4 := hid61 hR4
        have Hm4 := hid61 hm4
        have Hit4 := hid61 hit4
        have Hb4 := hid61 hb4
        have Hmet4 := hid61 hmet4
        clear hR4 hm4 hit4 hb4 hmet4 hrows hown4 hg4 hRa hrow4 hcu hitu
        have hjw : ((j + 1 : Nat) : Int) = (j : Int) + 1 := by omega
        go_wp2_with fail
        go_roundg g3
        case measure => omega
        case rel => exact ⟨j + 1,_,_,_,by first | rfl | rw [hjw],by omega,by omega,by rw [if_neg (by omega)]; exact hVf,HR4.out,Hm4.out,Hmet4.out,Hb4.out,Hit4.out⟩
      ·obtain rfl : j = (cur d).length := by omega
       have HS5 : Hid (S61 w s.size (rowK x (d + 1) cur) wr) := ⟨V,m,c,hR1,hM1,hmet,hbel⟩
       have Hcur := hid61 hcur
       clear hR1 hM1 hmet hbel hcur
       go_wp2_with fail
       go_roundg g2
       case measure => omega
       case rel => exact ⟨d,rowK x (d + 1) cur,by first | rfl | (congr 1; omega),by omega,by omega,HS5.out,Hcur.out,fun i hi => (rowK_at (by omega)).trans (Hold.out i (by omega)),hit⟩
  ·obtain rfl : pos = s.size := by omega
   have htk : s.data.toList.take s.size = s.data.toList := List.take_of_length_le (by simp)
   rw [htk] at hS
   have hnx : ∀ ty,(Instr.next (.pointer (some ⟨w.heap.size + 3,0,none⟩)) true ty).run Try.prog wr = .ok (.tuple #[.bool false]) wr := fun ty => Lib.run_next_end_at wr (w.heap.size + 3) s s.size ty hit (Nat.lt_irrefl _)
   obtain ⟨V,m,c,hR1,hM1,hmet,hbel⟩ := hS
   obtain ⟨hnd,hin⟩ := @allR_mem s.size s.data.toList (by simp)
   have hne0 : ∀ i,i < s.size + 1 → allR s.size s.data.toList i ≠ [] := fun i hi e => by
    have h := (hin i (s.data.toList.take i)).2 ⟨List.take_sublist _ _,by rw [List.length_take]; simp; omega⟩
    rw [e] at h
    cases h
   have hbd : ∀ i,(allR s.size s.data.toList i).length ≤ 1024 := fun i => by
    have h1 := @allR_bound s.size s.data.toList i
    have h2 : 2 ^ s.data.toList.length ≤ 2 ^ 10 := Nat.pow_le_pow_right (by decide) (by simp; omega)
    exact Nat.le_trans h1 h2
   obtain ⟨R,hR⟩ : ∃ R,allR s.size s.data.toList = R := ⟨_,rfl⟩
   rw [hR] at hR1 hne0 hbd
   have hgoal : ∀ (e : Ending) (w' : World),(∃ V,e = .returned (.slice (some ⟨w.heap.size + 1,0,none⟩) (s.size + 1) (s.size + 1)) ∧ Below w.heap.size w w' ∧ RowsAt w.heap.size (w.heap.size + 1) s.size V (srtT (s.size + 1) R) w') → (∃ V,e = .returned (.slice (some ⟨w.heap.size + 1,0,none⟩) (s.size + 1) (s.size + 1)) ∧ Below w.heap.size w w' ∧ RowsAt w.heap.size (w.heap.size + 1) s.size V (srtT (s.size + 1) (allR s.size s.data.toList)) w') := fun e w' h => by rw [hR]; exact h
   have Hgoal := hid61 hgoal
   have HR1 := hid61 hR1
   have Hb1 := hid61 hbel
   have Hne := hid61 hne0
   have Hbd := hid61 hbd
   clear hR1 hM1 hmet hbel hit hnd hin hne0 hbd hR hgoal htk hrow hcell0 hfr0 hm1 hins hmm hmk1 hb1 hz1 mty kty
   go_wp2_with fail
   go_loopg [65] (s.size + 1) (fun gk2 s65 wx => ∃ t : Nat,s65 = .int .i64 t ∧ t ≤ s.size + 1 ∧ s.size + 1 ≤ t + gk2 ∧ RowsAt w.heap.size (w.heap.size + 1) s.size V (srtT t R) wx ∧ Below w.heap.size w wx)
   case atStart => exact ⟨0,rfl,by omega,by omega,srtT_zero ▸ HR1.out,Hb1.out⟩
   case round =>
    obtain ⟨t,rfl,ht,htg,hRt,hbt⟩ := hrel
    by_cases hlt2 : t < s.size + 1
    ·obtain ⟨g2,rfl⟩ : ∃ g2,gk = g2 + 1 := ⟨gk - 1,by omega⟩
     have hcell := hRt.out.cell hlt2
     have hrt : srtT t R t = R t := by unfold srtT; rw [if_neg (Nat.lt_irrefl _)]
     have hn0 : (srtT t R t).length ≠ 0 := by rw [hrt]; exact fun e => Hne.out t hlt2 (List.length_eq_zero_iff.1 e)
     obtain ⟨g,cap,cur,hVt,hBg,hbg,hn1,hn2,hn3,hn4⟩ := own_some (hRt.row t hlt2) hn0
     have hH := holds_of_block hbg (by simpa using hn4)
     have hgl : g < wr.heap.size := (Array.getElem?_eq_some_iff.1 hbg).1
     have hsz : (srtT t R t).length < 4611686018427387904 := by rw [hrt]; have := Hbd.out t; omega
     have hcon := Try.slices_Sort_string g 0 cap (srtT t R t) wr hH hgl hsz
     have hredo : ∀ q os,RowsAt w.heap.size (w.heap.size + 1) s.size V (srtT (t + 1) R) (Sort.grow (Sort.putRow encStr (Sort.ahead wr q) g 0 (srt (srtT t R t)).toArray) os) ∧ Below w.heap.size w (Sort.grow (Sort.putRow encStr (Sort.ahead wr q) g 0 (srt (srtT t R t)).toArray) os) := fun q os => by
      have hg := @grownBy_sorted wr g q os (srt (srtT t R t)).toArray
      have ho := @ownsRow_sorted wr w.heap.size g cap q 9 os cur (srtT t R t) (srt (srtT t R t)) srt_len hBg hbg hn1 hn2 hn3
      rw [← hVt] at ho
      refine ⟨?_,hbt.grown hg (by omega) (fun k hk => by cases hk; exact hBg)⟩
      rw [← srtT_succ]
      refine hRt.redo hlt2 srt_len (fun p hp => hRt.len t hlt2 p (srt_mem.1 hp)) (fun e => hn0 (by rw [e]; rfl)) ?_ (by rw [srt_len]; exact ho)
      rw [hVt]
      exact hg
     rw [hVt] at hcell
     have Hcon := hid61 hcon
     have Hredo := hid61 hredo
     clear hcon hredo hH hbg hVt hrt hn0 hsz hn1 hn2 hn3 hn4 hRt hbt
     go_wp2_with fail
     refine Hcon.out.mono ?_
     rintro e w3 ⟨rfl,q,os,rfl⟩
     obtain ⟨hR3,hb3⟩ := Hredo.out q os
     change RowsAt w.heap.size (w.heap.size + 1) s.size V (srtT (t + 1) R) (Sort.grow (Sort.putRow encStr (Sort.ahead wr q) g 0 ((srtT t R t).mergeSort fun x y => decide (x ≤ y)).toArray) os) at hR3
     change Below w.heap.size w (Sort.grow (Sort.putRow encStr (Sort.ahead wr q) g 0 ((srtT t R t).mergeSort fun x y => decide (x ≤ y)).toArray) os) at hb3
     clear Hcon Hredo
     generalize Sort.grow (Sort.putRow encStr (Sort.ahead wr q) g 0 ((srtT t R t).mergeSort fun x y => decide (x ≤ y)).toArray) os = w3 at hR3 hb3 ⊢
     have HR3 := hid61 hR3
     have Hb3 := hid61 hb3
     clear hR3 hb3
     have htw : ((t + 1 : Nat) : Int) = (t : Int) + 1 := by omega
     go_wp2_with fail
     go_roundg g2
     case measure => omega
     case rel => exact ⟨t + 1,by first | rfl | rw [htw],by omega,by omega,HR3.out,Hb3.out⟩
    ·obtain rfl : t = s.size + 1 := by omega
     have HRt := hid61 hRt
     have Hbt := hid61 hbt
     clear hRt hbt
     go_wp2_with fail
     go_ret
     exact Hgoal.out _ _ ⟨V,rfl,Hbt.out,HRt.out⟩
end Go.Proofs.Ytmnmfmghmenkkaa
set_option linter.unusedSimpArgs false
set_option linter.unusedVariables false
namespace Go.Proofs.Ytmnmfmghmenkkaa
open Go.RowKit Go.Abs Go.Pur
set_option maxRecDepth 1000000
set_option maxHeartbeats 8000000
theorem hid52 {p : Prop} (h : p) : Hid p := h
theorem srt_perm {l m : List (List UInt8)} (h : l.Perm m) : srt l = srt m := by
 have hs : ∀ l : List (List UInt8),(srt l).Pairwise (fun a b => decide (a ≤ b) = true) := fun l =>
  List.pairwise_mergeSort (le := fun (x y : List UInt8) => decide (x ≤ y)) (fun a b c h1 h2 => by
   simp only [decide_eq_true_eq] at *
   exact List.le_trans h1 h2) (fun a b => by
   simp only [Bool.or_eq_true,decide_eq_true_eq]
   exact List.le_total a b) l
 refine List.Perm.eq_of_pairwise (le := fun a b => decide (a ≤ b) = true) (fun a b _ _ h1 h2 => ?_) (hs l) (hs m) ?_
 ·simp only [decide_eq_true_eq] at h1 h2
  exact List.le_antisymm h1 h2
 ·exact ((List.mergeSort_perm _ _).trans h).trans (List.mergeSort_perm _ _).symm
theorem own_ne {w : World} {B e n : Nat} {v : Value} {xs : List Value} (h : w.ownsRow B e 1 v n xs) {g : Nat} {o : Obj} (hm : w.heap[g]? = some o) (ho : ∀ c t fr,o ≠ .cells c t fr) : v.ownBlock = none ∨ v.ownBlock ≠ some g := by
 rcases h.2 with ⟨rfl,_⟩ | ⟨g',cap,cur,rfl,_,hb,_⟩
 ·exact .inl rfl
 ·refine .inr fun e => ?_
  cases e
  rw [hb] at hm
  exact ho _ _ _ (Option.some.inj hm).symm
theorem own_kept {w w' : World} {B e n : Nat} {v : Value} {xs : List Value} {row : Option Nat} (h : w.ownsRow B e 1 v n xs) (hg : w.grownBy w' row) (hr : v.ownBlock = none ∨ v.ownBlock ≠ row) : w'.ownsRow B e 1 v n xs := h.kept hg hr
theorem own_ge52 {w : World} {B e n : Nat} {v : Value} {xs : List Value} {g : Nat} (h : w.ownsRow B e 1 v n xs) (hg : v.ownBlock = some g) : B ≤ g := by
 rcases h.2 with ⟨e1,_⟩ | ⟨g',cap,cur,rfl,hb,_⟩
 ·rw [e1] at hg; cases hg
 ·cases hg; exact hb
theorem own_some52 {w : World} {B e n : Nat} {v : Value} {xs : List Value} (h : w.ownsRow B e 1 v n xs) (hn : n ≠ 0) : ∃ g cap cur,v = .slice (some ⟨g,0,none⟩) n cap ∧ B ≤ g ∧ w.heap[g]? = some (.cells cur e (0,0)) ∧ n ≤ cap ∧ cap ≤ maxLen ∧ cur.size = cap * 1 ∧ cur.toList.take (n * 1) = xs := by
 rcases h.2 with ⟨_,e0⟩ | ⟨g,cap,cur,h1⟩
 ·exact absurd e0 hn
 ·exact ⟨g,cap,cur,h1⟩
def C52 (w0 : World) (bm c n : Nat) (es : List MapEntry) (v : Value) (seen : Array Nat) (S : List (List UInt8)) (w : World) : Prop :=
 ∃ c0,w.heap[w0.heap.size]? = some (.mapIter (some bm) c seen c0) ∧ c ≤ c0 ∧ w.heap[bm]? = some (.map es.toArray c) ∧ w.ownsRow w0.heap.size 9 1 v S.length (S.map encStr) ∧ S.Nodup ∧ S.length ≤ 4096 ∧
  (∀ k,k ∈ S ↔ ∃ e ∈ es,e.key = strV k ∧ k.length = n ∧ seen.contains e.born = true) ∧ Below w0.heap.size w0 w
theorem ofSize_calls (bm : Nat) (es : List MapEntry) (c n : Nat) (ks : List (List UInt8)) (w : World) (hw : w.heap[bm]? = some (.map es.toArray c)) (hk : es.map (·.key) = ks.map strV) (hlen : es.length ≤ 4096)
  (hb : ∀ e ∈ es,e.born < c) (hnb : (es.map (·.born)).Nodup) (hnk : ks.Nodup) (hne : (ks.filter fun k => decide (k.length = n)) ≠ []) :
  Calls Try.prog 52 #[.map (some bm),.int .i64 n] w fun e w' => ∃ v,e = .returned v ∧ Below w.heap.size w w' ∧ w'.ownsRow w.heap.size 9 1 v (srt (ks.filter fun k => decide (k.length = n))).length ((srt (ks.filter fun k => decide (k.length = n))).map encStr) := by
 have mixed : Try.prog.follows .mixedOrders = true := by kernel_rfl
 have hbl : bm < w.heap.size := (Array.getElem?_eq_some_iff.1 hw).1
 have hrg := run_range_map (P := Try.prog) w 58 9 3 bm es.toArray c Try.underlying58 hw
 obtain ⟨w1,hw1⟩ : ∃ w1,w.alloc (.mapIter (some bm) c #[] c) = w1 := ⟨_,rfl⟩
 have h0 : C52 w bm c n es (.slice none 0 0) #[] [] w1 := by
  refine ⟨c,by rw [← hw1]; exact heap_alloc_new _ _,Nat.le_refl _,by rw [← hw1,heap_alloc_old _ _ hbl]; exact hw,⟨rfl,.inl ⟨rfl,rfl⟩⟩,List.nodup_nil,by simp,fun k => ?_,by rw [← hw1]; exact (Below.refl _ _).alloc (Nat.le_refl _) _⟩
  simp
 rw [hw1] at hrg
 have H0 := hid52 h0
 have Hne := hid52 hne
 have Hk := hid52 hk
 have Hnk := hid52 hnk
 have Hb := hid52 hb
 have Hnb := hid52 hnb
 have Hlen := hid52 hlen
 clear h0 hne hk hnk hb hnb hw hw1 hlen
 have hkey : ∀ e ∈ es,∃ k ∈ ks,e.key = strV k := fun e he => by
  have h := List.mem_map_of_mem (f := (·.key)) he
  rw [Hk.out] at h
  obtain ⟨k,hk,e1⟩ := List.mem_map.1 h
  exact ⟨k,hk,e1.symm⟩
 have hinj : ∀ (a b : List UInt8),strV a = strV b → a = b := fun a b h => by
  unfold strV at h
  injection h with h
  injection h with h
  exact List.toArray_inj h
 have hnkey : (es.map (·.key)).Nodup := by
  rw [Hk.out]
  unfold List.Nodup
  rw [List.pairwise_map]
  exact Hnk.out.imp fun h e => h (hinj _ _ e)
 have Hkey := hid52 hkey
 have Hnkey := hid52 hnkey
 have Hinj := hid52 hinj
 clear hkey hnkey hinj
 go_enter Try.func52,Try.ntmps52
 go_wp2_with fail
 go_loopg [5] (es.length + 1) (fun gk s5 wx => ∃ (seen : Array Nat) (S : List (List UInt8)),C52 w bm c n es s5 seen S wx ∧ (leftOf es.toArray seen).size < gk)
 case atStart =>
  refine ⟨#[],[],H0.out, ?_⟩
  have : (leftOf es.toArray #[]).size ≤ es.length := by
   unfold leftOf
   exact Nat.le_trans (Array.size_filter_le ..) (by simp)
  omega
 case round =>
  obtain ⟨seen,S,hC,hg⟩ := hrel
  obtain ⟨g',rfl⟩ : ∃ g',gk = g' + 1 := ⟨gk - 1,by omega⟩
  obtain ⟨c0,q1,q2,q3,q4,q5,q6,q7,q8⟩ := hC
  have Q1 := hid52 q1
  have Q4 := hid52 q4
  have Q7 := hid52 q7
  have Q8 := hid52 q8
  have Q3 := hid52 q3
  have Q5 := hid52 q5
  rcases run_next_at (P := Try.prog) wr 0 w.heap.size bm c c0 seen es.toArray c q1 q3 (by simpa using Hb.out) q2 with ⟨hl0,hrun⟩ | ⟨e,he,w2,hw2,hrun⟩
  ·have hall : ∀ e ∈ es,seen.contains e.born = true := fun e he => by
    cases hc : seen.contains e.born with
    | true => rfl
    | false =>
     have : e ∈ leftOf es.toArray seen := Array.mem_filter.2 ⟨by simpa using he,by rw [hc]; rfl⟩
     rw [Array.eq_empty_of_size_eq_zero hl0] at this
     simp at this
   have hperm : S.Perm (ks.filter fun k => decide (k.length = n)) := by
    refine (List.perm_ext_iff_of_nodup q5 (Hnk.out.filter _)).2 fun k => ?_
    rw [q7 k,List.mem_filter,decide_eq_true_iff]
    constructor
    ·rintro ⟨e,he,h1,h2,_⟩
     obtain ⟨k',hk',h3⟩ := Hkey.out e he
     rw [h1] at h3
     rw [Hinj.out _ _ h3]
     exact ⟨hk',by rw [← Hinj.out _ _ h3]; exact h2⟩
    ·rintro ⟨h1,h2⟩
     have h3 : strV k ∈ es.map (·.key) := by rw [Hk.out]; exact List.mem_map_of_mem h1
     obtain ⟨e,he,h4⟩ := List.mem_map.1 h3
     exact ⟨e,he,h4,h2,hall e he⟩
   have hS0 : S.length ≠ 0 := fun e => Hne.out (by
    have := hperm.length_eq
    rw [e] at this
    exact List.length_eq_zero_iff.1 this.symm)
   have hT := srt_perm hperm
   have hgoal : ∀ (e : Ending) (w' : World),(∃ v,e = .returned v ∧ Below w.heap.size w w' ∧ w'.ownsRow w.heap.size 9 1 v (srt S).length ((srt S).map encStr)) → (∃ v,e = .returned v ∧ Below w.heap.size w w' ∧ w'.ownsRow w.heap.size 9 1 v (srt (ks.filter fun k => decide (k.length = n))).length ((srt (ks.filter fun k => decide (k.length = n))).map encStr)) := fun e w' h => by rw [← hT]; exact h
   have Hgoal := hid52 hgoal
   clear hgoal
   obtain ⟨g,cap,cur,rfl,hBg,hbg,hn1,hn2,hn3,hn4⟩ := own_some52 q4 hS0
   have hH := holds_of_block hbg (by simpa using hn4)
   have hgl : g < wr.heap.size := (Array.getElem?_eq_some_iff.1 hbg).1
   have hcon := Try.slices_Sort_string g 0 cap S wr hH hgl (by omega)
   have hlS : (srt S).length = S.length := by simp [srt]
   have hredo : ∀ q os,(Sort.grow (Sort.putRow encStr (Sort.ahead wr q) g 0 (srt S).toArray) os).ownsRow w.heap.size 9 1 (.slice (some ⟨g,0,none⟩) S.length cap) (srt S).length ((srt S).map encStr) ∧ Below w.heap.size w (Sort.grow (Sort.putRow encStr (Sort.ahead wr q) g 0 (srt S).toArray) os) := fun q os => by
    have hg := @grownBy_sorted wr g q os (srt S).toArray
    have ho := @ownsRow_sorted wr w.heap.size g cap q 9 os cur S (srt S) hlS hBg hbg hn1 hn2 hn3
    refine ⟨by rw [hlS]; exact ho,q8.grown hg (by have := q8.size; omega) (fun k hk => by cases hk; exact hBg)⟩
   have Hcon := hid52 hcon
   have Hredo := hid52 hredo
   have HlS := hid52 hlS
   clear hcon hredo hlS hH hbg hn1 hn2 hn3 hn4 q1 q3 q4 q5 q6 q7 q8 hT hperm hall hl0 hS0 Q1 Q4 Q7 Q8 Q3 Q5
   go_wp2_with fail
   refine Hcon.out.mono ?_
   rintro e w3 ⟨rfl,q,os,rfl⟩
   obtain ⟨hR3,hb3⟩ := Hredo.out q os
   change (Sort.grow (Sort.putRow encStr (Sort.ahead wr q) g 0 (S.mergeSort fun x y => decide (x ≤ y)).toArray) os).ownsRow w.heap.size 9 1 (.slice (some ⟨g,0,none⟩) S.length cap) (srt S).length ((srt S).map encStr) at hR3
   change Below w.heap.size w (Sort.grow (Sort.putRow encStr (Sort.ahead wr q) g 0 (S.mergeSort fun x y => decide (x ≤ y)).toArray) os) at hb3
   clear Hcon Hredo
   generalize Sort.grow (Sort.putRow encStr (Sort.ahead wr q) g 0 (S.mergeSort fun x y => decide (x ≤ y)).toArray) os = w3 at hR3 hb3 ⊢
   have HR3 := hid52 hR3
   have Hb3 := hid52 hb3
   clear hR3 hb3
   go_wp2_with fail
   go_ret
   exact Hgoal.out _ _ ⟨_,rfl,Hb3.out,HR3.out⟩
  ·obtain ⟨hm1,hm2⟩ := mem_left he
   have hm1' : e ∈ es := by simpa using hm1
   obtain ⟨k,hkm,hke⟩ := Hkey.out e hm1'
   have hke' : e.key = .string ⟨k.toArray⟩ := hke
   have hshr := left_shrinks es.toArray seen e he
   obtain ⟨W3,hW3⟩ : ∃ W3,ChangeMaps.setBlock w2 w.heap.size (.mapIter (some bm) c (seen.push e.born) c) = W3 := ⟨_,rfl⟩
   have hheap : w2.heap = wr.heap := by rcases hw2 with rfl | rfl <;> rfl
   have hgr : wr.grownBy W3 (some w.heap.size) := by
    rw [← hW3]
    refine ⟨by rcases hw2 with rfl | rfl <;> rfl,by rcases hw2 with rfl | rfl <;> rfl,by rcases hw2 with rfl | rfl <;> rfl,by simp [ChangeMaps.setBlock,hheap],fun j hj hne => ?_⟩
    simp only [ChangeMaps.setBlock,hheap]
    rw [Array.getElem?_setIfInBounds,if_neg (fun e => hne (by rw [e]))]
   have hit3 : W3.heap[w.heap.size]? = some (.mapIter (some bm) c (seen.push e.born) c) := by
    rw [← hW3]
    simp only [ChangeMaps.setBlock,hheap]
    rw [Array.getElem?_setIfInBounds,if_pos rfl,if_pos (Array.getElem?_eq_some_iff.1 q1).1]
   have hmap3 : W3.heap[bm]? = some (.map es.toArray c) := by
    rw [hgr.block bm (by have := q8.size; omega) (fun e => by cases e; omega)]
    exact q3
   have hown3 := q4.kept hgr (own_ne q4 q1 (fun _ _ _ e => by cases e))
   have hb3 : Below w.heap.size w W3 := q8.grown hgr (by have := q8.size; omega) (fun k hk => by cases hk; exact Nat.le_refl _)
   have hen := run_entry_at (P := Try.prog) W3 w.heap.size bm c seen es.toArray c e hit3 hmap3 hm1 (by simpa using Hnb.out)
   obtain ⟨vv,hvv⟩ : ∃ vv,e.val = vv := ⟨_,rfl⟩
   obtain ⟨bb,hbb⟩ : ∃ bb,e.born = bb := ⟨_,rfl⟩
   rw [hW3,hke',hvv] at hrun
   rw [hke',hvv] at hen
   rw [hbb] at hshr hit3
   have hseen : ∀ x : MapEntry,(seen.push bb).contains x.born = (seen.contains x.born || x.born == bb) := fun x => contains_push _ _ _
   have honly : ∀ x ∈ es,x.key = strV k → x = e := fun x hx h => by
    obtain ⟨i,hi,rfl⟩ := List.mem_iff_getElem.1 hx
    obtain ⟨j,hj,rfl⟩ := List.mem_iff_getElem.1 hm1'
    have h1 : (es.map (·.key))[i]? = (es.map (·.key))[j]? := by
     rw [List.getElem?_map,List.getElem?_map,List.getElem?_eq_getElem hi,List.getElem?_eq_getElem hj]
     simp only [Option.map_some]
     rw [h,hke]
    have h2 := (List.getElem?_inj (by simpa using hi) Hnkey.out).1 h1
    subst h2; rfl
   have hbinj : ∀ x ∈ es,x.born = bb → x = e := fun x hx h => by
    obtain ⟨i,hi,rfl⟩ := List.mem_iff_getElem.1 hx
    obtain ⟨j,hj,rfl⟩ := List.mem_iff_getElem.1 hm1'
    have h1 : (es.map (·.born))[i]? = (es.map (·.born))[j]? := by
     rw [List.getElem?_map,List.getElem?_map,List.getElem?_eq_getElem hi,List.getElem?_eq_getElem hj]
     simp only [Option.map_some]
     rw [h,hbb]
    have h2 := (List.getElem?_inj (by simpa using hi) Hnb.out).1 h1
    subst h2; rfl
   by_cases hkn : k.length = n
   ·have hkS : k ∉ S := fun h => by
     obtain ⟨x,hx,h1,_,h3⟩ := (q7 k).1 h
     rw [honly x hx h1] at h3
     rw [hm2] at h3
     cases h3
    have hmem : ∀ k',k' ∈ S ++ [k] ↔ ∃ x ∈ es,x.key = strV k' ∧ k'.length = n ∧ (seen.push bb).contains x.born = true := fun k' => by
     rw [List.mem_append,List.mem_singleton]
     constructor
     ·rintro (h | rfl)
      ·obtain ⟨x,hx,h1,h2,h3⟩ := (q7 k').1 h
       exact ⟨x,hx,h1,h2,by rw [hseen,h3]; rfl⟩
      ·exact ⟨e,hm1',hke,hkn,by rw [hseen,hbb,beq_self_eq_true,Bool.or_true]⟩
     ·rintro ⟨x,hx,h1,h2,h3⟩
      rw [hseen,Bool.or_eq_true] at h3
      rcases h3 with h3 | h3
      ·exact .inl ((q7 k').2 ⟨x,hx,h1,h2,h3⟩)
      ·have := hbinj x hx (by simpa using h3)
       subst this
       rw [hke] at h1
       exact .inr (Hinj.out _ _ h1).symm
    have hnd : (S ++ [k]).Nodup := by
     rw [List.nodup_append]
     refine ⟨q5,by simp,fun a ha b hb e => ?_⟩
     rw [List.mem_singleton] at hb
     subst hb; subst e
     exact hkS ha
    have hlen4 : (S ++ [k]).length ≤ 4096 := by
     have h1 : (S ++ [k]).length ≤ ks.length := by
      refine List.Nodup.length_le_of_subset hnd fun x hx => ?_
      obtain ⟨y,hy,h1,_⟩ := (hmem x).1 hx
      obtain ⟨k',hk',h2⟩ := Hkey.out y hy
      rw [h1] at h2
      rw [Hinj.out _ _ h2]; exact hk'
     have h2 : ks.length = es.length := by
      have := congrArg List.length Hk.out
      simpa using this.symm
     have := Hlen.out
     omega
    have hki : ((k.length : Int) = (n : Int)) := by omega
    obtain ⟨i0,hi0,hz0,hz1',hz2⟩ := info_parts (show (Try.prog.info? 9).map (fun i => (i.zero,i.size,i.bytes)) = some (some (.string ⟨#[]⟩),1,16) by kernel_rfl)
    have hrk := hown3.alloc (.cells #[.string ⟨k.toArray⟩] 9)
    have Hrk := hid52 hrk
    have Hmem := hid52 hmem
    have Hnd := hid52 hnd
    have Hlen4 := hid52 hlen4
    have Hit3 := hid52 hit3
    have Hmap3 := hid52 hmap3
    have Hown3 := hid52 hown3
    have Hb3 := hid52 hb3
    have Hshr := hid52 hshr
    have Hkn := hid52 hkn
    clear hrk hmem hnd hlen4 hit3 hmap3 hown3 hb3 hshr hkS honly hbinj hseen hgr hheap hW3 hw2 hm1 hm1' hm2 he hke hke' hvv hbb q1 q3 q4 q5 q7 q8 hkn Q1 Q3 Q4 Q5 Q7
    go_wp2_with (at_builtin; refine wpList_append_own _ rfl _ _ 36 rfl w.heap.size 9 i0 (.string ⟨#[]⟩) 1 16 Try.underlying36 hi0 hz0 hz1' hz2 rfl (by decide) _ _ _ rfl Hrk.out ⟨W3.heap.size,0,none⟩ 1 1 [.string ⟨k.toArray⟩] rfl rfl ?c1 ?c2 ?c3 ?c4 ?c5 ?_)
    case c1 => exact cell_one_new _ _ _
    case c2 => exact fun u hu => by rw [List.mem_singleton.1 hu]; rfl
    case c3 => unfold maxLen; omega
    case c4 => omega
    case c5 => exact Nat.le_trans Hb3.out.size (by simp)
    rintro v4 w4 hown4 hg4 -
    have hlt1 : w.heap.size < W3.heap.size := (Array.getElem?_eq_some_iff.1 Hit3.out).1
    have hC4 : C52 w bm c n es v4 (seen.push bb) (S ++ [k]) w4 := by
     have hne : ∀ {g : Nat} {o : Obj},W3.heap[g]? = some o → (∀ c t fr,o ≠ .cells c t fr) → w4.heap[g]? = some o := fun {g o} h1 h2 => by
      have hl : g < W3.heap.size := (Array.getElem?_eq_some_iff.1 h1).1
      rw [hg4.block g (by simp; omega) (fun e => (own_ne Hown3.out h1 h2).elim (fun h => by rw [h] at e; cases e) (fun h => h e.symm)),heap_alloc_old _ _ hl]
      exact h1
     refine ⟨c,hne Hit3.out (fun _ _ _ e => by cases e),Nat.le_refl _,hne Hmap3.out (fun _ _ _ e => by cases e), ?_,Hnd.out,Hlen4.out,Hmem.out, ?_⟩
     ·have : (S ++ [k]).map encStr = S.map encStr ++ [.string ⟨k.toArray⟩] := by rw [List.map_append]; rfl
      rw [this,List.length_append]
      exact hown4
     ·exact (Hb3.out.alloc (by omega) _).grown hg4 (by simp; omega) (fun g hk => own_ge52 Hown3.out hk)
    have HC4 := hid52 hC4
    clear hC4 hown4 hg4
    go_wp2_with fail
    go_roundg g'
    case measure => omega
    case rel => exact ⟨_,_,HC4.out,by have := Hshr.out; omega⟩
   ·have hki : ¬ ((k.length : Int) = (n : Int)) := by omega
    have hC4 : C52 w bm c n es u5 (seen.push bb) S W3 := by
     refine ⟨c,hit3,Nat.le_refl _,hmap3,hown3,q5,q6,fun k' => ?_,hb3⟩
     rw [q7 k']
     constructor
     ·rintro ⟨x,hx,h1,h2,h3⟩
      exact ⟨x,hx,h1,h2,by rw [hseen,h3]; rfl⟩
     ·rintro ⟨x,hx,h1,h2,h3⟩
      rw [hseen,Bool.or_eq_true] at h3
      rcases h3 with h3 | h3
      ·exact ⟨x,hx,h1,h2,h3⟩
      ·have := hbinj x hx (by simpa using h3)
       subst this
       rw [hke] at h1
       rw [← Hinj.out _ _ h1] at h2
       exact absurd h2 hkn
    have HC4 := hid52 hC4
    have Hshr := hid52 hshr
    clear hC4 hit3 hmap3 hown3 hb3 hshr honly hbinj hseen hgr hheap hW3 hw2 hm1 hm1' hm2 he hke hke' hvv hbb q1 q3 q4 q5 q7 q8 hkn Q1 Q3 Q4 Q5 Q7
    go_wp2_with fail
    go_roundg g'
    case measure => omega
    case rel => exact ⟨_,_,HC4.out,by have := Hshr.out; omega⟩
end Go.Proofs.Ytmnmfmghmenkkaa

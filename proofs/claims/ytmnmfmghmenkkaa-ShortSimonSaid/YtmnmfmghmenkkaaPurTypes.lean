/-
  The seat's policy for the pure evaluator, and what its types are (printed by a tool).
  Conditions: none; closed facts.
-/
import Derived.Test.YtmnmfmghmenkkaaPurB
import Derived.Test.YtmnmfmghmenkkaaProg
set_option linter.unusedSimpArgs false
set_option linter.unusedVariables false
namespace Go.Proofs.Ytmnmfmghmenkkaa
open Go.Abs Go.Pur
def masks : List Nat := [0, 0, 0, 4325363, 1572807, 24563, 70935696636959, 14821387422376473014217110601040706059440291772052500816631215559971459748069375, 5316947477356469882128542141359587295, 140737488420831, 311902897201156637927391223, 58753015, 166153499482785890669892915949468735, 25961563520836652475247757547798223, 1427944593798410682138273575276986457852473335, 187072209662750959139081682297927136022892080266991, 5, 4722366482869645737983, 4211, 2163, 4415729764083, 2163, 140874931274739, 528627, 33571891, 265877, 4195405, 2105395, 2181039219, 926589, 285, 8819, 655475, 31457523, 295155, 33571891, 2163, 2199560668147, 35322884853747, 8606729203, 8405491, 4297589747, 559047, 137583660999, 9275205348510451, 2417852810169594140991475, 5, 5, 62159, 72057594043295475, 1821, 1966799, 66931, 67443, 4189, 13, 19, 33781, 563, 68786853831, 285, 138351144534133443293, 71, 4505833010403315, 1103119539, 2111987, 4303388787, 131635, 66483, 17040883, 2365794927730275418055, 73786976295911952327, 65735, 21, 19, 11, 19, 5, 5, 525, 19, 131783, 66483, 524353, 10384593871817177683247510831234831, 5, 3, 1, 1073746119, 1074268103, 8804682991559, 20829169751433159, 8391, 83087207854311395603287443752634311, 19, 19023213622105999119, 22458641409078797123448399039441150152463, 277, 16661, 4503668346913551, 5, 5, 71, 1055, 5, 262927, 1, 1, 1, 1, 1, 1, 1, 1, 1, 1, 1, 1, 1, 1, 1, 1, 1]
def keepOf (f t : Nat) : Bool := masks.getD f 0 / 2 ^ t % 2 == 1
theorem keep3 (t : Nat) : keepOf 3 t = (4325363 / 2 ^ t % 2 == 1) := rfl
theorem keep5 (t : Nat) : keepOf 5 t = (24563 / 2 ^ t % 2 == 1) := rfl
theorem keep8 (t : Nat) : keepOf 8 t = (5316947477356469882128542141359587295 / 2 ^ t % 2 == 1) := rfl
theorem keep9 (t : Nat) : keepOf 9 t = (140737488420831 / 2 ^ t % 2 == 1) := rfl
theorem keep16 (t : Nat) : keepOf 16 t = (5 / 2 ^ t % 2 == 1) := rfl
theorem keep18 (t : Nat) : keepOf 18 t = (4211 / 2 ^ t % 2 == 1) := rfl
theorem keep19 (t : Nat) : keepOf 19 t = (2163 / 2 ^ t % 2 == 1) := rfl
theorem keep20 (t : Nat) : keepOf 20 t = (4415729764083 / 2 ^ t % 2 == 1) := rfl
theorem keep21 (t : Nat) : keepOf 21 t = (2163 / 2 ^ t % 2 == 1) := rfl
theorem keep22 (t : Nat) : keepOf 22 t = (140874931274739 / 2 ^ t % 2 == 1) := rfl
theorem keep23 (t : Nat) : keepOf 23 t = (528627 / 2 ^ t % 2 == 1) := rfl
theorem keep24 (t : Nat) : keepOf 24 t = (33571891 / 2 ^ t % 2 == 1) := rfl
theorem keep25 (t : Nat) : keepOf 25 t = (265877 / 2 ^ t % 2 == 1) := rfl
theorem keep26 (t : Nat) : keepOf 26 t = (4195405 / 2 ^ t % 2 == 1) := rfl
theorem keep27 (t : Nat) : keepOf 27 t = (2105395 / 2 ^ t % 2 == 1) := rfl
theorem keep28 (t : Nat) : keepOf 28 t = (2181039219 / 2 ^ t % 2 == 1) := rfl
theorem keep29 (t : Nat) : keepOf 29 t = (926589 / 2 ^ t % 2 == 1) := rfl
theorem keep30 (t : Nat) : keepOf 30 t = (285 / 2 ^ t % 2 == 1) := rfl
theorem keep32 (t : Nat) : keepOf 32 t = (655475 / 2 ^ t % 2 == 1) := rfl
theorem keep33 (t : Nat) : keepOf 33 t = (31457523 / 2 ^ t % 2 == 1) := rfl
theorem keep34 (t : Nat) : keepOf 34 t = (295155 / 2 ^ t % 2 == 1) := rfl
theorem keep36 (t : Nat) : keepOf 36 t = (2163 / 2 ^ t % 2 == 1) := rfl
theorem keep37 (t : Nat) : keepOf 37 t = (2199560668147 / 2 ^ t % 2 == 1) := rfl
theorem keep38 (t : Nat) : keepOf 38 t = (35322884853747 / 2 ^ t % 2 == 1) := rfl
theorem keep39 (t : Nat) : keepOf 39 t = (8606729203 / 2 ^ t % 2 == 1) := rfl
theorem keep40 (t : Nat) : keepOf 40 t = (8405491 / 2 ^ t % 2 == 1) := rfl
theorem keep42 (t : Nat) : keepOf 42 t = (559047 / 2 ^ t % 2 == 1) := rfl
theorem keep50 (t : Nat) : keepOf 50 t = (1821 / 2 ^ t % 2 == 1) := rfl
theorem keep54 (t : Nat) : keepOf 54 t = (4189 / 2 ^ t % 2 == 1) := rfl
theorem keep57 (t : Nat) : keepOf 57 t = (33781 / 2 ^ t % 2 == 1) := rfl
theorem keep58 (t : Nat) : keepOf 58 t = (563 / 2 ^ t % 2 == 1) := rfl
theorem keep59 (t : Nat) : keepOf 59 t = (68786853831 / 2 ^ t % 2 == 1) := rfl
theorem keep60 (t : Nat) : keepOf 60 t = (285 / 2 ^ t % 2 == 1) := rfl
theorem keep62 (t : Nat) : keepOf 62 t = (71 / 2 ^ t % 2 == 1) := rfl
theorem keep63 (t : Nat) : keepOf 63 t = (4505833010403315 / 2 ^ t % 2 == 1) := rfl
theorem keep64 (t : Nat) : keepOf 64 t = (1103119539 / 2 ^ t % 2 == 1) := rfl
theorem keep65 (t : Nat) : keepOf 65 t = (2111987 / 2 ^ t % 2 == 1) := rfl
theorem keep66 (t : Nat) : keepOf 66 t = (4303388787 / 2 ^ t % 2 == 1) := rfl
theorem keep67 (t : Nat) : keepOf 67 t = (131635 / 2 ^ t % 2 == 1) := rfl
theorem keep68 (t : Nat) : keepOf 68 t = (66483 / 2 ^ t % 2 == 1) := rfl
theorem keep69 (t : Nat) : keepOf 69 t = (17040883 / 2 ^ t % 2 == 1) := rfl
theorem keep81 (t : Nat) : keepOf 81 t = (131783 / 2 ^ t % 2 == 1) := rfl
theorem sz3 : szOf Try.prog 3 = some 1 := by kernel_rfl
theorem by3 : byOf Try.prog 3 = some 8 := by kernel_rfl
theorem row3 : isRowT Try.prog 3 = some false := by kernel_rfl
theorem zero3 : zeroOf Try.prog 3 = some (.int .i64 0) := by kernel_rfl
theorem sz4 : szOf Try.prog 4 = some 1 := by kernel_rfl
theorem by4 : byOf Try.prog 4 = some 1 := by kernel_rfl
theorem row4 : isRowT Try.prog 4 = some false := by kernel_rfl
theorem zero4 : zeroOf Try.prog 4 = some (.bool false) := by kernel_rfl
theorem sz5 : szOf Try.prog 5 = some 1 := by kernel_rfl
theorem by5 : byOf Try.prog 5 = some 1 := by kernel_rfl
theorem row5 : isRowT Try.prog 5 = some false := by kernel_rfl
theorem zero5 : zeroOf Try.prog 5 = some (.int .u8 0) := by kernel_rfl
theorem sz9 : szOf Try.prog 9 = some 1 := by kernel_rfl
theorem by9 : byOf Try.prog 9 = some 16 := by kernel_rfl
theorem row9 : isRowT Try.prog 9 = some false := by kernel_rfl
theorem shape9 : shapeOf Try.prog 9 = some .string := by kernel_rfl
theorem zero9 : zeroOf Try.prog 9 = some (.string ⟨#[]⟩) := by kernel_rfl
theorem sz21 : szOf Try.prog 21 = some 1 := by kernel_rfl
theorem by21 : byOf Try.prog 21 = some 4 := by kernel_rfl
theorem row21 : isRowT Try.prog 21 = some false := by kernel_rfl
theorem zero21 : zeroOf Try.prog 21 = some (.int .i32 0) := by kernel_rfl
theorem sz22 : szOf Try.prog 22 = some 1 := by kernel_rfl
theorem by22 : byOf Try.prog 22 = some 8 := by kernel_rfl
theorem row22 : isRowT Try.prog 22 = some false := by kernel_rfl
theorem zero22 : zeroOf Try.prog 22 = some (.nilFunc) := by kernel_rfl
theorem sz24 : szOf Try.prog 24 = some 1 := by kernel_rfl
theorem by24 : byOf Try.prog 24 = some 8 := by kernel_rfl
theorem row24 : isRowT Try.prog 24 = some false := by kernel_rfl
theorem zero24 : zeroOf Try.prog 24 = some (.int .i64 0) := by kernel_rfl
theorem sz29 : szOf Try.prog 29 = some 1 := by kernel_rfl
theorem by29 : byOf Try.prog 29 = some 24 := by kernel_rfl
theorem row29 : isRowT Try.prog 29 = some false := by kernel_rfl
theorem shape29 : shapeOf Try.prog 29 = some (.slice 3 1) := by kernel_rfl
theorem zero29 : zeroOf Try.prog 29 = some (.slice none 0 0) := by kernel_rfl
theorem sz36 : szOf Try.prog 36 = some 1 := by kernel_rfl
theorem by36 : byOf Try.prog 36 = some 24 := by kernel_rfl
theorem row36 : isRowT Try.prog 36 = some false := by kernel_rfl
theorem shape36 : shapeOf Try.prog 36 = some (.slice 9 1) := by kernel_rfl
theorem zero36 : zeroOf Try.prog 36 = some (.slice none 0 0) := by kernel_rfl
theorem sz52 : szOf Try.prog 52 = some 10 := by kernel_rfl
theorem by52 : byOf Try.prog 52 = some 10 := by kernel_rfl
theorem row52 : isRowT Try.prog 52 = some true := by kernel_rfl
theorem shape52 : shapeOf Try.prog 52 = some (.array 10 5 1) := by kernel_rfl
theorem zero52 : zeroOf Try.prog 52 = some (.agg #[.int .u8 0, .int .u8 0, .int .u8 0, .int .u8 0, .int .u8 0, .int .u8 0, .int .u8 0, .int .u8 0, .int .u8 0, .int .u8 0]) := by kernel_rfl
theorem parts52 : partsOf Try.prog 52 = some (.arr 1) := by kernel_rfl
theorem sz54 : szOf Try.prog 54 = some 11 := by kernel_rfl
theorem by54 : byOf Try.prog 54 = some 11 := by kernel_rfl
theorem row54 : isRowT Try.prog 54 = some true := by kernel_rfl
theorem zero54 : zeroOf Try.prog 54 = some (.agg #[.int .u8 0, .int .u8 0, .int .u8 0, .int .u8 0, .int .u8 0, .int .u8 0, .int .u8 0, .int .u8 0, .int .u8 0, .int .u8 0, .int .u8 0]) := by kernel_rfl
theorem parts54 : partsOf Try.prog 54 = some (.rows [(0, 1), (1, 10)]) := by kernel_rfl
theorem field54_0 : fieldOf Try.prog 54 0 = some (5, 0, 1) := by kernel_rfl
theorem field54_1 : fieldOf Try.prog 54 1 = some (52, 1, 10) := by kernel_rfl
theorem sz58 : szOf Try.prog 58 = some 1 := by kernel_rfl
theorem by58 : byOf Try.prog 58 = some 8 := by kernel_rfl
theorem row58 : isRowT Try.prog 58 = some false := by kernel_rfl
theorem zero58 : zeroOf Try.prog 58 = some (.map none) := by kernel_rfl
theorem mt58 : mapTy Try.prog 58 = some (9, 3) := by kernel_rfl
theorem az3 : azero Try.prog 3 = some (.int .i64 0) := by kernel_rfl
theorem sz63 : szOf Try.prog 63 = some 1 := by kernel_rfl
theorem by63 : byOf Try.prog 63 = some 2 := by kernel_rfl
theorem row63 : isRowT Try.prog 63 = some false := by kernel_rfl
theorem zero63 : zeroOf Try.prog 63 = some (.int .u16 0) := by kernel_rfl
theorem sz66 : szOf Try.prog 66 = some 44 := by kernel_rfl
theorem by66 : byOf Try.prog 66 = some 44 := by kernel_rfl
theorem row66 : isRowT Try.prog 66 = some true := by kernel_rfl
theorem shape66 : shapeOf Try.prog 66 = some (.array 4 54 11) := by kernel_rfl
theorem zero66 : zeroOf Try.prog 66 = some (.agg #[.int .u8 0, .int .u8 0, .int .u8 0, .int .u8 0, .int .u8 0, .int .u8 0, .int .u8 0, .int .u8 0, .int .u8 0, .int .u8 0, .int .u8 0, .int .u8 0, .int .u8 0, .int .u8 0, .int .u8 0, .int .u8 0, .int .u8 0, .int .u8 0, .int .u8 0, .int .u8 0, .int .u8 0, .int .u8 0, .int .u8 0, .int .u8 0, .int .u8 0, .int .u8 0, .int .u8 0, .int .u8 0, .int .u8 0, .int .u8 0, .int .u8 0, .int .u8 0, .int .u8 0, .int .u8 0, .int .u8 0, .int .u8 0, .int .u8 0, .int .u8 0, .int .u8 0, .int .u8 0, .int .u8 0, .int .u8 0, .int .u8 0, .int .u8 0]) := by kernel_rfl
theorem parts66 : partsOf Try.prog 66 = some (.arr 11) := by kernel_rfl
theorem sz67 : szOf Try.prog 67 = some 1 := by kernel_rfl
theorem by67 : byOf Try.prog 67 = some 24 := by kernel_rfl
theorem row67 : isRowT Try.prog 67 = some false := by kernel_rfl
theorem shape67 : shapeOf Try.prog 67 = some (.slice 54 11) := by kernel_rfl
theorem zero67 : zeroOf Try.prog 67 = some (.slice none 0 0) := by kernel_rfl
theorem sz75 : szOf Try.prog 75 = some 1 := by kernel_rfl
theorem by75 : byOf Try.prog 75 = some 24 := by kernel_rfl
theorem row75 : isRowT Try.prog 75 = some false := by kernel_rfl
theorem shape75 : shapeOf Try.prog 75 = some (.slice 5 1) := by kernel_rfl
theorem zero75 : zeroOf Try.prog 75 = some (.slice none 0 0) := by kernel_rfl
theorem sz76 : szOf Try.prog 76 = some 1 := by kernel_rfl
theorem by76 : byOf Try.prog 76 = some 24 := by kernel_rfl
theorem row76 : isRowT Try.prog 76 = some false := by kernel_rfl
theorem shape76 : shapeOf Try.prog 76 = some (.slice 29 1) := by kernel_rfl
theorem zero76 : zeroOf Try.prog 76 = some (.slice none 0 0) := by kernel_rfl
theorem sz78 : szOf Try.prog 78 = some 1 := by kernel_rfl
theorem by78 : byOf Try.prog 78 = some 8 := by kernel_rfl
theorem row78 : isRowT Try.prog 78 = some false := by kernel_rfl
theorem zero78 : zeroOf Try.prog 78 = some (.map none) := by kernel_rfl
theorem mt78 : mapTy Try.prog 78 = some (21, 3) := by kernel_rfl
theorem sz79 : szOf Try.prog 79 = some 1 := by kernel_rfl
theorem by79 : byOf Try.prog 79 = some 24 := by kernel_rfl
theorem row79 : isRowT Try.prog 79 = some false := by kernel_rfl
theorem shape79 : shapeOf Try.prog 79 = some (.slice 36 1) := by kernel_rfl
theorem zero79 : zeroOf Try.prog 79 = some (.slice none 0 0) := by kernel_rfl
theorem sz92 : szOf Try.prog 92 = some 1 := by kernel_rfl
theorem by92 : byOf Try.prog 92 = some 8 := by kernel_rfl
theorem row92 : isRowT Try.prog 92 = some false := by kernel_rfl
theorem zero92 : zeroOf Try.prog 92 = some (.pointer none) := by kernel_rfl
theorem sz94 : szOf Try.prog 94 = some 2 := by kernel_rfl
theorem by94 : byOf Try.prog 94 = some 32 := by kernel_rfl
theorem row94 : isRowT Try.prog 94 = some true := by kernel_rfl
theorem zero94 : zeroOf Try.prog 94 = some (.agg #[.pointer none, .slice none 0 0]) := by kernel_rfl
theorem parts94 : partsOf Try.prog 94 = some (.rows [(0, 1), (1, 1)]) := by kernel_rfl
theorem field94_0 : fieldOf Try.prog 94 0 = some (92, 0, 1) := by kernel_rfl
theorem field94_1 : fieldOf Try.prog 94 1 = some (75, 1, 1) := by kernel_rfl
theorem sz99 : szOf Try.prog 99 = some 1 := by kernel_rfl
theorem by99 : byOf Try.prog 99 = some 24 := by kernel_rfl
theorem row99 : isRowT Try.prog 99 = some false := by kernel_rfl
theorem shape99 : shapeOf Try.prog 99 = some (.slice 58 1) := by kernel_rfl
theorem zero99 : zeroOf Try.prog 99 = some (.slice none 0 0) := by kernel_rfl
theorem sz102 : szOf Try.prog 102 = some 1 := by kernel_rfl
theorem by102 : byOf Try.prog 102 = some 8 := by kernel_rfl
theorem row102 : isRowT Try.prog 102 = some false := by kernel_rfl
theorem zero102 : zeroOf Try.prog 102 = some (.map none) := by kernel_rfl
theorem mt102 : mapTy Try.prog 102 = some (9, 4) := by kernel_rfl
theorem az4 : azero Try.prog 4 = some (.bool false) := by kernel_rfl
theorem sz103 : szOf Try.prog 103 = some 1 := by kernel_rfl
theorem by103 : byOf Try.prog 103 = some 8 := by kernel_rfl
theorem row103 : isRowT Try.prog 103 = some false := by kernel_rfl
theorem zero103 : zeroOf Try.prog 103 = some (.map none) := by kernel_rfl
theorem mt103 : mapTy Try.prog 103 = some (21, 4) := by kernel_rfl
theorem sz106 : szOf Try.prog 106 = some 2 := by kernel_rfl
theorem by106 : byOf Try.prog 106 = some 16 := by kernel_rfl
theorem row106 : isRowT Try.prog 106 = some true := by kernel_rfl
theorem zero106 : zeroOf Try.prog 106 = some (.agg #[.int .i64 0, .int .i64 0]) := by kernel_rfl
theorem parts106 : partsOf Try.prog 106 = some (.rows [(0, 1), (1, 1)]) := by kernel_rfl
theorem field106_0 : fieldOf Try.prog 106 0 = some (3, 0, 1) := by kernel_rfl
theorem field106_1 : fieldOf Try.prog 106 1 = some (3, 1, 1) := by kernel_rfl
theorem sz108 : szOf Try.prog 108 = some 3 := by kernel_rfl
theorem by108 : byOf Try.prog 108 = some 32 := by kernel_rfl
theorem row108 : isRowT Try.prog 108 = some true := by kernel_rfl
theorem zero108 : zeroOf Try.prog 108 = some (.agg #[.int .i64 0, .int .i64 0, .string ⟨#[]⟩]) := by kernel_rfl
theorem parts108 : partsOf Try.prog 108 = some (.rows [(0, 2), (2, 1)]) := by kernel_rfl
theorem field108_0 : fieldOf Try.prog 108 0 = some (106, 0, 2) := by kernel_rfl
theorem field108_1 : fieldOf Try.prog 108 1 = some (9, 2, 1) := by kernel_rfl
theorem sz109 : szOf Try.prog 109 = some 1 := by kernel_rfl
theorem by109 : byOf Try.prog 109 = some 24 := by kernel_rfl
theorem row109 : isRowT Try.prog 109 = some false := by kernel_rfl
theorem shape109 : shapeOf Try.prog 109 = some (.slice 108 3) := by kernel_rfl
theorem zero109 : zeroOf Try.prog 109 = some (.slice none 0 0) := by kernel_rfl
theorem sz110 : szOf Try.prog 110 = some 1 := by kernel_rfl
theorem by110 : byOf Try.prog 110 = some 8 := by kernel_rfl
theorem row110 : isRowT Try.prog 110 = some false := by kernel_rfl
theorem zero110 : zeroOf Try.prog 110 = some (.map none) := by kernel_rfl
theorem mt110 : mapTy Try.prog 110 = some (106, 4) := by kernel_rfl
theorem sz112 : szOf Try.prog 112 = some 1 := by kernel_rfl
theorem by112 : byOf Try.prog 112 = some 8 := by kernel_rfl
theorem row112 : isRowT Try.prog 112 = some false := by kernel_rfl
theorem zero112 : zeroOf Try.prog 112 = some (.pointer none) := by kernel_rfl
theorem sz115 : szOf Try.prog 115 = some 1 := by kernel_rfl
theorem by115 : byOf Try.prog 115 = some 8 := by kernel_rfl
theorem row115 : isRowT Try.prog 115 = some false := by kernel_rfl
theorem zero115 : zeroOf Try.prog 115 = some (.int .u64 0) := by kernel_rfl
theorem sz116 : szOf Try.prog 116 = some 1 := by kernel_rfl
theorem by116 : byOf Try.prog 116 = some 8 := by kernel_rfl
theorem row116 : isRowT Try.prog 116 = some false := by kernel_rfl
theorem zero116 : zeroOf Try.prog 116 = some (.pointer none) := by kernel_rfl
theorem sz119 : szOf Try.prog 119 = some 1 := by kernel_rfl
theorem by119 : byOf Try.prog 119 = some 8 := by kernel_rfl
theorem row119 : isRowT Try.prog 119 = some false := by kernel_rfl
theorem zero119 : zeroOf Try.prog 119 = some (.int .i64 0) := by kernel_rfl
theorem sz127 : szOf Try.prog 127 = some 1 := by kernel_rfl
theorem by127 : byOf Try.prog 127 = some 4 := by kernel_rfl
theorem row127 : isRowT Try.prog 127 = some false := by kernel_rfl
theorem zero127 : zeroOf Try.prog 127 = some (.int .u32 0) := by kernel_rfl
theorem sz129 : szOf Try.prog 129 = some 1 := by kernel_rfl
theorem by129 : byOf Try.prog 129 = some 8 := by kernel_rfl
theorem row129 : isRowT Try.prog 129 = some false := by kernel_rfl
theorem zero129 : zeroOf Try.prog 129 = some (.int .u64 0) := by kernel_rfl
theorem sz130 : szOf Try.prog 130 = some 1 := by kernel_rfl
theorem by130 : byOf Try.prog 130 = some 8 := by kernel_rfl
theorem row130 : isRowT Try.prog 130 = some false := by kernel_rfl
theorem zero130 : zeroOf Try.prog 130 = some (.int .u64 0) := by kernel_rfl
theorem sz134 : szOf Try.prog 134 = some 1 := by kernel_rfl
theorem by134 : byOf Try.prog 134 = some 8 := by kernel_rfl
theorem row134 : isRowT Try.prog 134 = some false := by kernel_rfl
theorem zero134 : zeroOf Try.prog 134 = some (.pointer none) := by kernel_rfl
theorem body8 : bodyOf Try.prog 8 = some (Try.f8, (Try.f8.body).get rfl) := by
 unfold bodyOf
 rw [Try.func8]
 rfl
theorem body25 : bodyOf Try.prog 25 = some (Try.f25, (Try.f25.body).get rfl) := by
 unfold bodyOf
 rw [Try.func25]
 rfl
theorem body27 : bodyOf Try.prog 27 = some (Try.f27, (Try.f27.body).get rfl) := by
 unfold bodyOf
 rw [Try.func27]
 rfl
theorem body40 : bodyOf Try.prog 40 = some (Try.f40, (Try.f40.body).get rfl) := by
 unfold bodyOf
 rw [Try.func40]
 rfl
theorem body42 : bodyOf Try.prog 42 = some (Try.f42, (Try.f42.body).get rfl) := by
 unfold bodyOf
 rw [Try.func42]
 rfl
theorem body50 : bodyOf Try.prog 50 = some (Try.f50, (Try.f50.body).get rfl) := by
 unfold bodyOf
 rw [Try.func50]
 rfl
theorem body57 : bodyOf Try.prog 57 = some (Try.f57, (Try.f57.body).get rfl) := by
 unfold bodyOf
 rw [Try.func57]
 rfl
theorem body68 : bodyOf Try.prog 68 = some (Try.f68, (Try.f68.body).get rfl) := by
 unfold bodyOf
 rw [Try.func68]
 rfl
theorem body81 : bodyOf Try.prog 81 = some (Try.f81, (Try.f81.body).get rfl) := by
 unfold bodyOf
 rw [Try.func81]
 rfl
theorem progFine : progOK Try.prog = true := by kernel_rfl
end Go.Proofs.Ytmnmfmghmenkkaa

/-
  The seat's policy for the pure evaluator, and what its types are (printed by a tool).
  Conditions: none; closed facts.
-/
import Derived.Test.YtcdhajbhpnbdkaaDoorPurB
import Derived.Test.YtcdhajbhpnbdkaaDoorProg
set_option linter.unusedSimpArgs false
set_option linter.unusedVariables false
namespace Go.Proofs.YtcdhajbhpnbdkaaDoor
open Go.Abs Go.Pur
def masks : List Nat := [0, 0, 0, 81911, 196607, 196607, 5242831, 4835703278458516699873279, 22649876236219501797794731884039168094830591, 4835703314487317476147199, 5196892091965377326593791590662143, 1897137590064188927576844316902144463648073474773132038275484280044253275546975231, 191561942608236107315562565827927958466464375598219263, 2039, 1647061278551611169017147081710880147285791230242963659247583231, 16492675464183, 95871587260133440099569686228446589738300680664186879, 23, 1208925819614629175230463, 503, 503, 7867383, 34502352887, 67126323, 135183, 33622159, 15, 15, 15, 15, 15, 15, 33571891, 575, 1151, 576592711004598271, 4159, 575, 4159, 287, 287, 33015, 2167, 72058143808488447, 1151, 33571891, 557519, 524495, 251658959, 511, 1208925833125496792293367, 4221, 66483, 17656611014519, 34628706291, 1075842943, 5, 1, 1, 5, 19, 21, 525, 17596514574653, 13, 7, 4724095866234122436599, 2477090186134917409614610423, 45, 131635, 19, 5, 71, 9241387470467248119, 143, 32975, 4559, 71, 71, 1267960123026206509333616794599, 68753048575, 79, 335, 19023240012534718239, 2101119, 67109951, 4300162551, 137454682551, 4398315012215, 1152921506787886071, 5, 316738638634099928017729791, 604275, 5, 5, 16883, 263283, 19, 5, 66483, 4503891685216207, 17180140487, 1048655, 5, 5, 5, 183, 10384593871817177683247510831234831, 5, 21, 21, 1073743311, 1073746119, 1074268103, 8804682991559, 20829169751433159, 8391, 83087207854311395603287443752634311, 19, 19023213622105999119, 22458641409078797123448399039441150152463, 277, 16661, 4503668346913551, 5, 5, 71, 1055, 262927, 1, 1, 1, 1, 1, 1, 1, 1, 1, 1, 1, 1, 1, 1, 1, 1, 0, 0, 0, 0, 0]
def keepOf (f t : Nat) : Bool := masks.getD f 0 / 2 ^ t % 2 == 1
theorem keep9 (t : Nat) : keepOf 9 t = (4835703314487317476147199 / 2 ^ t % 2 == 1) := rfl
theorem keep15 (t : Nat) : keepOf 15 t = (16492675464183 / 2 ^ t % 2 == 1) := rfl
theorem keep18 (t : Nat) : keepOf 18 t = (1208925819614629175230463 / 2 ^ t % 2 == 1) := rfl
theorem keep19 (t : Nat) : keepOf 19 t = (503 / 2 ^ t % 2 == 1) := rfl
theorem keep21 (t : Nat) : keepOf 21 t = (7867383 / 2 ^ t % 2 == 1) := rfl
theorem keep23 (t : Nat) : keepOf 23 t = (67126323 / 2 ^ t % 2 == 1) := rfl
theorem keep24 (t : Nat) : keepOf 24 t = (135183 / 2 ^ t % 2 == 1) := rfl
theorem keep26 (t : Nat) : keepOf 26 t = (15 / 2 ^ t % 2 == 1) := rfl
theorem keep28 (t : Nat) : keepOf 28 t = (15 / 2 ^ t % 2 == 1) := rfl
theorem keep30 (t : Nat) : keepOf 30 t = (15 / 2 ^ t % 2 == 1) := rfl
theorem keep32 (t : Nat) : keepOf 32 t = (33571891 / 2 ^ t % 2 == 1) := rfl
theorem keep33 (t : Nat) : keepOf 33 t = (575 / 2 ^ t % 2 == 1) := rfl
theorem keep35 (t : Nat) : keepOf 35 t = (576592711004598271 / 2 ^ t % 2 == 1) := rfl
theorem keep37 (t : Nat) : keepOf 37 t = (575 / 2 ^ t % 2 == 1) := rfl
theorem keep39 (t : Nat) : keepOf 39 t = (287 / 2 ^ t % 2 == 1) := rfl
theorem keep41 (t : Nat) : keepOf 41 t = (33015 / 2 ^ t % 2 == 1) := rfl
theorem keep43 (t : Nat) : keepOf 43 t = (72058143808488447 / 2 ^ t % 2 == 1) := rfl
theorem keep45 (t : Nat) : keepOf 45 t = (33571891 / 2 ^ t % 2 == 1) := rfl
theorem keep46 (t : Nat) : keepOf 46 t = (557519 / 2 ^ t % 2 == 1) := rfl
theorem keep48 (t : Nat) : keepOf 48 t = (251658959 / 2 ^ t % 2 == 1) := rfl
theorem keep49 (t : Nat) : keepOf 49 t = (511 / 2 ^ t % 2 == 1) := rfl
theorem keep50 (t : Nat) : keepOf 50 t = (1208925833125496792293367 / 2 ^ t % 2 == 1) := rfl
theorem keep51 (t : Nat) : keepOf 51 t = (4221 / 2 ^ t % 2 == 1) := rfl
theorem keep52 (t : Nat) : keepOf 52 t = (66483 / 2 ^ t % 2 == 1) := rfl
theorem keep53 (t : Nat) : keepOf 53 t = (17656611014519 / 2 ^ t % 2 == 1) := rfl
theorem keep54 (t : Nat) : keepOf 54 t = (34628706291 / 2 ^ t % 2 == 1) := rfl
theorem keep55 (t : Nat) : keepOf 55 t = (1075842943 / 2 ^ t % 2 == 1) := rfl
theorem keep56 (t : Nat) : keepOf 56 t = (5 / 2 ^ t % 2 == 1) := rfl
theorem keep57 (t : Nat) : keepOf 57 t = (1 / 2 ^ t % 2 == 1) := rfl
theorem keep58 (t : Nat) : keepOf 58 t = (1 / 2 ^ t % 2 == 1) := rfl
theorem keep59 (t : Nat) : keepOf 59 t = (5 / 2 ^ t % 2 == 1) := rfl
theorem keep60 (t : Nat) : keepOf 60 t = (19 / 2 ^ t % 2 == 1) := rfl
theorem keep61 (t : Nat) : keepOf 61 t = (21 / 2 ^ t % 2 == 1) := rfl
theorem keep62 (t : Nat) : keepOf 62 t = (525 / 2 ^ t % 2 == 1) := rfl
theorem keep66 (t : Nat) : keepOf 66 t = (4724095866234122436599 / 2 ^ t % 2 == 1) := rfl
theorem keep68 (t : Nat) : keepOf 68 t = (45 / 2 ^ t % 2 == 1) := rfl
theorem keep70 (t : Nat) : keepOf 70 t = (19 / 2 ^ t % 2 == 1) := rfl
theorem keep71 (t : Nat) : keepOf 71 t = (5 / 2 ^ t % 2 == 1) := rfl
theorem keep73 (t : Nat) : keepOf 73 t = (9241387470467248119 / 2 ^ t % 2 == 1) := rfl
theorem keep74 (t : Nat) : keepOf 74 t = (143 / 2 ^ t % 2 == 1) := rfl
theorem keep75 (t : Nat) : keepOf 75 t = (32975 / 2 ^ t % 2 == 1) := rfl
theorem keep77 (t : Nat) : keepOf 77 t = (71 / 2 ^ t % 2 == 1) := rfl
theorem keep78 (t : Nat) : keepOf 78 t = (71 / 2 ^ t % 2 == 1) := rfl
theorem keep79 (t : Nat) : keepOf 79 t = (1267960123026206509333616794599 / 2 ^ t % 2 == 1) := rfl
theorem keep81 (t : Nat) : keepOf 81 t = (79 / 2 ^ t % 2 == 1) := rfl
theorem keep82 (t : Nat) : keepOf 82 t = (335 / 2 ^ t % 2 == 1) := rfl
theorem keep84 (t : Nat) : keepOf 84 t = (2101119 / 2 ^ t % 2 == 1) := rfl
theorem keep86 (t : Nat) : keepOf 86 t = (4300162551 / 2 ^ t % 2 == 1) := rfl
theorem keep87 (t : Nat) : keepOf 87 t = (137454682551 / 2 ^ t % 2 == 1) := rfl
theorem keep90 (t : Nat) : keepOf 90 t = (5 / 2 ^ t % 2 == 1) := rfl
theorem keep91 (t : Nat) : keepOf 91 t = (316738638634099928017729791 / 2 ^ t % 2 == 1) := rfl
theorem keep92 (t : Nat) : keepOf 92 t = (604275 / 2 ^ t % 2 == 1) := rfl
theorem keep98 (t : Nat) : keepOf 98 t = (5 / 2 ^ t % 2 == 1) := rfl
theorem keep99 (t : Nat) : keepOf 99 t = (66483 / 2 ^ t % 2 == 1) := rfl
theorem keep104 (t : Nat) : keepOf 104 t = (5 / 2 ^ t % 2 == 1) := rfl
theorem keep105 (t : Nat) : keepOf 105 t = (5 / 2 ^ t % 2 == 1) := rfl
theorem keep110 (t : Nat) : keepOf 110 t = (21 / 2 ^ t % 2 == 1) := rfl
theorem sz3 : szOf Tryd.prog 3 = some 1 := by kernel_rfl
theorem by3 : byOf Tryd.prog 3 = some 8 := by kernel_rfl
theorem row3 : isRowT Tryd.prog 3 = some false := by kernel_rfl
theorem zero3 : zeroOf Tryd.prog 3 = some (.int .i64 0) := by kernel_rfl
theorem sz4 : szOf Tryd.prog 4 = some 1 := by kernel_rfl
theorem by4 : byOf Tryd.prog 4 = some 1 := by kernel_rfl
theorem row4 : isRowT Tryd.prog 4 = some false := by kernel_rfl
theorem zero4 : zeroOf Tryd.prog 4 = some (.bool false) := by kernel_rfl
theorem sz5 : szOf Tryd.prog 5 = some 1 := by kernel_rfl
theorem by5 : byOf Tryd.prog 5 = some 1 := by kernel_rfl
theorem row5 : isRowT Tryd.prog 5 = some false := by kernel_rfl
theorem zero5 : zeroOf Tryd.prog 5 = some (.int .u8 0) := by kernel_rfl
theorem sz9 : szOf Tryd.prog 9 = some 1 := by kernel_rfl
theorem by9 : byOf Tryd.prog 9 = some 16 := by kernel_rfl
theorem row9 : isRowT Tryd.prog 9 = some false := by kernel_rfl
theorem shape9 : shapeOf Tryd.prog 9 = some .string := by kernel_rfl
theorem zero9 : zeroOf Tryd.prog 9 = some (.string ⟨#[]⟩) := by kernel_rfl
theorem sz22 : szOf Tryd.prog 22 = some 1 := by kernel_rfl
theorem by22 : byOf Tryd.prog 22 = some 24 := by kernel_rfl
theorem row22 : isRowT Tryd.prog 22 = some false := by kernel_rfl
theorem shape22 : shapeOf Tryd.prog 22 = some (.slice 3 1) := by kernel_rfl
theorem zero22 : zeroOf Tryd.prog 22 = some (.slice none 0 0) := by kernel_rfl
theorem sz24 : szOf Tryd.prog 24 = some 2 := by kernel_rfl
theorem by24 : byOf Tryd.prog 24 = some 32 := by kernel_rfl
theorem row24 : isRowT Tryd.prog 24 = some true := by kernel_rfl
theorem zero24 : zeroOf Tryd.prog 24 = some (.agg #[.int .i64 0, .slice none 0 0]) := by kernel_rfl
theorem parts24 : partsOf Tryd.prog 24 = some (.rows [(0, 1), (1, 1)]) := by kernel_rfl
theorem field24_0 : fieldOf Tryd.prog 24 0 = some (3, 0, 1) := by kernel_rfl
theorem field24_1 : fieldOf Tryd.prog 24 1 = some (22, 1, 1) := by kernel_rfl
theorem sz27 : szOf Tryd.prog 27 = some 2 := by kernel_rfl
theorem by27 : byOf Tryd.prog 27 = some 32 := by kernel_rfl
theorem row27 : isRowT Tryd.prog 27 = some true := by kernel_rfl
theorem zero27 : zeroOf Tryd.prog 27 = some (.agg #[.int .i64 0, .slice none 0 0]) := by kernel_rfl
theorem parts27 : partsOf Tryd.prog 27 = some (.rows [(0, 1), (1, 1)]) := by kernel_rfl
theorem field27_0 : fieldOf Tryd.prog 27 0 = some (3, 0, 1) := by kernel_rfl
theorem field27_1 : fieldOf Tryd.prog 27 1 = some (22, 1, 1) := by kernel_rfl
theorem sz28 : szOf Tryd.prog 28 = some 1 := by kernel_rfl
theorem by28 : byOf Tryd.prog 28 = some 8 := by kernel_rfl
theorem row28 : isRowT Tryd.prog 28 = some false := by kernel_rfl
theorem zero28 : zeroOf Tryd.prog 28 = some (.int .i64 0) := by kernel_rfl
theorem sz32 : szOf Tryd.prog 32 = some 1 := by kernel_rfl
theorem by32 : byOf Tryd.prog 32 = some 24 := by kernel_rfl
theorem row32 : isRowT Tryd.prog 32 = some false := by kernel_rfl
theorem shape32 : shapeOf Tryd.prog 32 = some (.slice 22 1) := by kernel_rfl
theorem zero32 : zeroOf Tryd.prog 32 = some (.slice none 0 0) := by kernel_rfl
theorem sz46 : szOf Tryd.prog 46 = some 1 := by kernel_rfl
theorem by46 : byOf Tryd.prog 46 = some 24 := by kernel_rfl
theorem row46 : isRowT Tryd.prog 46 = some false := by kernel_rfl
theorem shape46 : shapeOf Tryd.prog 46 = some (.slice 75 2) := by kernel_rfl
theorem zero46 : zeroOf Tryd.prog 46 = some (.slice none 0 0) := by kernel_rfl
theorem sz54 : szOf Tryd.prog 54 = some 12 := by kernel_rfl
theorem by54 : byOf Tryd.prog 54 = some 12 := by kernel_rfl
theorem row54 : isRowT Tryd.prog 54 = some true := by kernel_rfl
theorem shape54 : shapeOf Tryd.prog 54 = some (.array 12 5 1) := by kernel_rfl
theorem zero54 : zeroOf Tryd.prog 54 = some (.agg #[.int .u8 0, .int .u8 0, .int .u8 0, .int .u8 0, .int .u8 0, .int .u8 0, .int .u8 0, .int .u8 0, .int .u8 0, .int .u8 0, .int .u8 0, .int .u8 0]) := by kernel_rfl
theorem parts54 : partsOf Tryd.prog 54 = some (.arr 1) := by kernel_rfl
theorem sz56 : szOf Tryd.prog 56 = some 14 := by kernel_rfl
theorem by56 : byOf Tryd.prog 56 = some 14 := by kernel_rfl
theorem row56 : isRowT Tryd.prog 56 = some true := by kernel_rfl
theorem zero56 : zeroOf Tryd.prog 56 = some (.agg #[.int .u8 0, .int .u8 0, .int .u8 0, .int .u8 0, .int .u8 0, .int .u8 0, .int .u8 0, .int .u8 0, .int .u8 0, .int .u8 0, .int .u8 0, .int .u8 0, .int .u8 0, .int .u8 0]) := by kernel_rfl
theorem parts56 : partsOf Tryd.prog 56 = some (.rows [(0, 1), (1, 1), (2, 12)]) := by kernel_rfl
theorem field56_0 : fieldOf Tryd.prog 56 0 = some (5, 0, 1) := by kernel_rfl
theorem field56_1 : fieldOf Tryd.prog 56 1 = some (5, 1, 1) := by kernel_rfl
theorem field56_2 : fieldOf Tryd.prog 56 2 = some (54, 2, 12) := by kernel_rfl
theorem sz63 : szOf Tryd.prog 63 = some 6 := by kernel_rfl
theorem by63 : byOf Tryd.prog 63 = some 48 := by kernel_rfl
theorem row63 : isRowT Tryd.prog 63 = some true := by kernel_rfl
theorem shape63 : shapeOf Tryd.prog 63 = some (.array 6 3 1) := by kernel_rfl
theorem zero63 : zeroOf Tryd.prog 63 = some (.agg #[.int .i64 0, .int .i64 0, .int .i64 0, .int .i64 0, .int .i64 0, .int .i64 0]) := by kernel_rfl
theorem parts63 : partsOf Tryd.prog 63 = some (.arr 1) := by kernel_rfl
theorem sz70 : szOf Tryd.prog 70 = some 6 := by kernel_rfl
theorem by70 : byOf Tryd.prog 70 = some 6 := by kernel_rfl
theorem row70 : isRowT Tryd.prog 70 = some true := by kernel_rfl
theorem shape70 : shapeOf Tryd.prog 70 = some (.array 6 5 1) := by kernel_rfl
theorem zero70 : zeroOf Tryd.prog 70 = some (.agg #[.int .u8 0, .int .u8 0, .int .u8 0, .int .u8 0, .int .u8 0, .int .u8 0]) := by kernel_rfl
theorem parts70 : partsOf Tryd.prog 70 = some (.arr 1) := by kernel_rfl
theorem sz75 : szOf Tryd.prog 75 = some 2 := by kernel_rfl
theorem by75 : byOf Tryd.prog 75 = some 16 := by kernel_rfl
theorem row75 : isRowT Tryd.prog 75 = some true := by kernel_rfl
theorem shape75 : shapeOf Tryd.prog 75 = some (.array 2 3 1) := by kernel_rfl
theorem zero75 : zeroOf Tryd.prog 75 = some (.agg #[.int .i64 0, .int .i64 0]) := by kernel_rfl
theorem parts75 : partsOf Tryd.prog 75 = some (.arr 1) := by kernel_rfl
theorem sz79 : szOf Tryd.prog 79 = some 1 := by kernel_rfl
theorem by79 : byOf Tryd.prog 79 = some 2 := by kernel_rfl
theorem row79 : isRowT Tryd.prog 79 = some false := by kernel_rfl
theorem zero79 : zeroOf Tryd.prog 79 = some (.int .u16 0) := by kernel_rfl
theorem sz84 : szOf Tryd.prog 84 = some 1 := by kernel_rfl
theorem by84 : byOf Tryd.prog 84 = some 8 := by kernel_rfl
theorem row84 : isRowT Tryd.prog 84 = some false := by kernel_rfl
theorem zero84 : zeroOf Tryd.prog 84 = some (.nilFunc) := by kernel_rfl
theorem sz86 : szOf Tryd.prog 86 = some 1 := by kernel_rfl
theorem by86 : byOf Tryd.prog 86 = some 24 := by kernel_rfl
theorem row86 : isRowT Tryd.prog 86 = some false := by kernel_rfl
theorem shape86 : shapeOf Tryd.prog 86 = some (.slice 93 1) := by kernel_rfl
theorem zero86 : zeroOf Tryd.prog 86 = some (.slice none 0 0) := by kernel_rfl
theorem sz91 : szOf Tryd.prog 91 = some 1 := by kernel_rfl
theorem by91 : byOf Tryd.prog 91 = some 8 := by kernel_rfl
theorem row91 : isRowT Tryd.prog 91 = some false := by kernel_rfl
theorem zero91 : zeroOf Tryd.prog 91 = some (.int .u64 0) := by kernel_rfl
theorem sz93 : szOf Tryd.prog 93 = some 1 := by kernel_rfl
theorem by93 : byOf Tryd.prog 93 = some 8 := by kernel_rfl
theorem row93 : isRowT Tryd.prog 93 = some true := by kernel_rfl
theorem zero93 : zeroOf Tryd.prog 93 = some (.agg #[.int .u64 0]) := by kernel_rfl
theorem parts93 : partsOf Tryd.prog 93 = some (.rows [(0, 1)]) := by kernel_rfl
theorem field93_0 : fieldOf Tryd.prog 93 0 = some (91, 0, 1) := by kernel_rfl
theorem sz97 : szOf Tryd.prog 97 = some 1 := by kernel_rfl
theorem by97 : byOf Tryd.prog 97 = some 8 := by kernel_rfl
theorem row97 : isRowT Tryd.prog 97 = some false := by kernel_rfl
theorem zero97 : zeroOf Tryd.prog 97 = some (.nilFunc) := by kernel_rfl
theorem sz100 : szOf Tryd.prog 100 = some 1 := by kernel_rfl
theorem by100 : byOf Tryd.prog 100 = some 8 := by kernel_rfl
theorem row100 : isRowT Tryd.prog 100 = some false := by kernel_rfl
theorem zero100 : zeroOf Tryd.prog 100 = some (.pointer none) := by kernel_rfl
theorem sz102 : szOf Tryd.prog 102 = some 1 := by kernel_rfl
theorem by102 : byOf Tryd.prog 102 = some 8 := by kernel_rfl
theorem row102 : isRowT Tryd.prog 102 = some false := by kernel_rfl
theorem zero102 : zeroOf Tryd.prog 102 = some (.nilFunc) := by kernel_rfl
theorem sz105 : szOf Tryd.prog 105 = some 13 := by kernel_rfl
theorem by105 : byOf Tryd.prog 105 = some 104 := by kernel_rfl
theorem row105 : isRowT Tryd.prog 105 = some true := by kernel_rfl
theorem zero105 : zeroOf Tryd.prog 105 = some (.agg #[.int .u64 0, .int .i64 0, .int .i64 0, .int .i64 0, .int .i64 0, .int .i64 0, .int .i64 0, .int .i64 0, .int .i64 0, .int .i64 0, .int .i64 0, .int .i64 0, .int .i64 0]) := by kernel_rfl
theorem parts105 : partsOf Tryd.prog 105 = some (.rows [(0, 1), (1, 6), (7, 6)]) := by kernel_rfl
theorem field105_0 : fieldOf Tryd.prog 105 0 = some (93, 0, 1) := by kernel_rfl
theorem field105_1 : fieldOf Tryd.prog 105 1 = some (63, 1, 6) := by kernel_rfl
theorem field105_2 : fieldOf Tryd.prog 105 2 = some (63, 7, 6) := by kernel_rfl
theorem sz106 : szOf Tryd.prog 106 = some 1 := by kernel_rfl
theorem by106 : byOf Tryd.prog 106 = some 8 := by kernel_rfl
theorem row106 : isRowT Tryd.prog 106 = some false := by kernel_rfl
theorem zero106 : zeroOf Tryd.prog 106 = some (.pointer none) := by kernel_rfl
theorem sz108 : szOf Tryd.prog 108 = some 2 := by kernel_rfl
theorem by108 : byOf Tryd.prog 108 = some 16 := by kernel_rfl
theorem row108 : isRowT Tryd.prog 108 = some true := by kernel_rfl
theorem zero108 : zeroOf Tryd.prog 108 = some (.agg #[.int .i64 0, .int .i64 0]) := by kernel_rfl
theorem parts108 : partsOf Tryd.prog 108 = some (.rows [(0, 1), (1, 1)]) := by kernel_rfl
theorem field108_0 : fieldOf Tryd.prog 108 0 = some (3, 0, 1) := by kernel_rfl
theorem field108_1 : fieldOf Tryd.prog 108 1 = some (3, 1, 1) := by kernel_rfl
theorem sz109 : szOf Tryd.prog 109 = some 128 := by kernel_rfl
theorem by109 : byOf Tryd.prog 109 = some 1024 := by kernel_rfl
theorem row109 : isRowT Tryd.prog 109 = some true := by kernel_rfl
theorem shape109 : shapeOf Tryd.prog 109 = some (.array 64 108 2) := by kernel_rfl
theorem zero109 : zeroOf Tryd.prog 109 = some (.agg #[.int .i64 0, .int .i64 0, .int .i64 0, .int .i64 0, .int .i64 0, .int .i64 0, .int .i64 0, .int .i64 0, .int .i64 0, .int .i64 0, .int .i64 0, .int .i64 0, .int .i64 0, .int .i64 0, .int .i64 0, .int .i64 0, .int .i64 0, .int .i64 0, .int .i64 0, .int .i64 0, .int .i64 0, .int .i64 0, .int .i64 0, .int .i64 0, .int .i64 0, .int .i64 0, .int .i64 0, .int .i64 0, .int .i64 0, .int .i64 0, .int .i64 0, .int .i64 0, .int .i64 0, .int .i64 0, .int .i64 0, .int .i64 0, .int .i64 0, .int .i64 0, .int .i64 0, .int .i64 0, .int .i64 0, .int .i64 0, .int .i64 0, .int .i64 0, .int .i64 0, .int .i64 0, .int .i64 0, .int .i64 0, .int .i64 0, .int .i64 0, .int .i64 0, .int .i64 0, .int .i64 0, .int .i64 0, .int .i64 0, .int .i64 0, .int .i64 0, .int .i64 0, .int .i64 0, .int .i64 0, .int .i64 0, .int .i64 0, .int .i64 0, .int .i64 0, .int .i64 0, .int .i64 0, .int .i64 0, .int .i64 0, .int .i64 0, .int .i64 0, .int .i64 0, .int .i64 0, .int .i64 0, .int .i64 0, .int .i64 0, .int .i64 0, .int .i64 0, .int .i64 0, .int .i64 0, .int .i64 0, .int .i64 0, .int .i64 0, .int .i64 0, .int .i64 0, .int .i64 0, .int .i64 0, .int .i64 0, .int .i64 0, .int .i64 0, .int .i64 0, .int .i64 0, .int .i64 0, .int .i64 0, .int .i64 0, .int .i64 0, .int .i64 0, .int .i64 0, .int .i64 0, .int .i64 0, .int .i64 0, .int .i64 0, .int .i64 0, .int .i64 0, .int .i64 0, .int .i64 0, .int .i64 0, .int .i64 0, .int .i64 0, .int .i64 0, .int .i64 0, .int .i64 0, .int .i64 0, .int .i64 0, .int .i64 0, .int .i64 0, .int .i64 0, .int .i64 0, .int .i64 0, .int .i64 0, .int .i64 0, .int .i64 0, .int .i64 0, .int .i64 0, .int .i64 0, .int .i64 0, .int .i64 0, .int .i64 0, .int .i64 0]) := by kernel_rfl
theorem parts109 : partsOf Tryd.prog 109 = some (.arr 2) := by kernel_rfl
theorem sz110 : szOf Tryd.prog 110 = some 1536 := by kernel_rfl
theorem by110 : byOf Tryd.prog 110 = some 12288 := by kernel_rfl
theorem row110 : isRowT Tryd.prog 110 = some true := by kernel_rfl
theorem shape110 : shapeOf Tryd.prog 110 = some (.array 12 109 128) := by kernel_rfl
theorem parts110 : partsOf Tryd.prog 110 = some (.arr 128) := by kernel_rfl
theorem sz112 : szOf Tryd.prog 112 = some 1538 := by kernel_rfl
theorem by112 : byOf Tryd.prog 112 = some 12320 := by kernel_rfl
theorem row112 : isRowT Tryd.prog 112 = some true := by kernel_rfl
theorem parts112 : partsOf Tryd.prog 112 = some (.rows [(0, 2), (2, 1536)]) := by kernel_rfl
theorem field112_0 : fieldOf Tryd.prog 112 0 = some (24, 0, 2) := by kernel_rfl
theorem field112_1 : fieldOf Tryd.prog 112 1 = some (110, 2, 1536) := by kernel_rfl
theorem sz126 : szOf Tryd.prog 126 = some 1 := by kernel_rfl
theorem by126 : byOf Tryd.prog 126 = some 24 := by kernel_rfl
theorem row126 : isRowT Tryd.prog 126 = some false := by kernel_rfl
theorem shape126 : shapeOf Tryd.prog 126 = some (.slice 5 1) := by kernel_rfl
theorem zero126 : zeroOf Tryd.prog 126 = some (.slice none 0 0) := by kernel_rfl
theorem sz127 : szOf Tryd.prog 127 = some 1 := by kernel_rfl
theorem by127 : byOf Tryd.prog 127 = some 8 := by kernel_rfl
theorem row127 : isRowT Tryd.prog 127 = some false := by kernel_rfl
theorem zero127 : zeroOf Tryd.prog 127 = some (.nilFunc) := by kernel_rfl
theorem sz134 : szOf Tryd.prog 134 = some 1 := by kernel_rfl
theorem by134 : byOf Tryd.prog 134 = some 4 := by kernel_rfl
theorem row134 : isRowT Tryd.prog 134 = some false := by kernel_rfl
theorem zero134 : zeroOf Tryd.prog 134 = some (.int .u32 0) := by kernel_rfl
theorem sz136 : szOf Tryd.prog 136 = some 1 := by kernel_rfl
theorem by136 : byOf Tryd.prog 136 = some 8 := by kernel_rfl
theorem row136 : isRowT Tryd.prog 136 = some false := by kernel_rfl
theorem zero136 : zeroOf Tryd.prog 136 = some (.int .u64 0) := by kernel_rfl
theorem sz140 : szOf Tryd.prog 140 = some 1 := by kernel_rfl
theorem by140 : byOf Tryd.prog 140 = some 8 := by kernel_rfl
theorem row140 : isRowT Tryd.prog 140 = some false := by kernel_rfl
theorem zero140 : zeroOf Tryd.prog 140 = some (.int .i64 0) := by kernel_rfl
theorem sz147 : szOf Tryd.prog 147 = some 32 := by kernel_rfl
theorem by147 : byOf Tryd.prog 147 = some 32 := by kernel_rfl
theorem row147 : isRowT Tryd.prog 147 = some true := by kernel_rfl
theorem shape147 : shapeOf Tryd.prog 147 = some (.array 32 5 1) := by kernel_rfl
theorem zero147 : zeroOf Tryd.prog 147 = some (.agg #[.int .u8 0, .int .u8 0, .int .u8 0, .int .u8 0, .int .u8 0, .int .u8 0, .int .u8 0, .int .u8 0, .int .u8 0, .int .u8 0, .int .u8 0, .int .u8 0, .int .u8 0, .int .u8 0, .int .u8 0, .int .u8 0, .int .u8 0, .int .u8 0, .int .u8 0, .int .u8 0, .int .u8 0, .int .u8 0, .int .u8 0, .int .u8 0, .int .u8 0, .int .u8 0, .int .u8 0, .int .u8 0, .int .u8 0, .int .u8 0, .int .u8 0, .int .u8 0]) := by kernel_rfl
theorem parts147 : partsOf Tryd.prog 147 = some (.arr 1) := by kernel_rfl
theorem sz148 : szOf Tryd.prog 148 = some 64 := by kernel_rfl
theorem by148 : byOf Tryd.prog 148 = some 64 := by kernel_rfl
theorem row148 : isRowT Tryd.prog 148 = some true := by kernel_rfl
theorem shape148 : shapeOf Tryd.prog 148 = some (.array 64 5 1) := by kernel_rfl
theorem zero148 : zeroOf Tryd.prog 148 = some (.agg #[.int .u8 0, .int .u8 0, .int .u8 0, .int .u8 0, .int .u8 0, .int .u8 0, .int .u8 0, .int .u8 0, .int .u8 0, .int .u8 0, .int .u8 0, .int .u8 0, .int .u8 0, .int .u8 0, .int .u8 0, .int .u8 0, .int .u8 0, .int .u8 0, .int .u8 0, .int .u8 0, .int .u8 0, .int .u8 0, .int .u8 0, .int .u8 0, .int .u8 0, .int .u8 0, .int .u8 0, .int .u8 0, .int .u8 0, .int .u8 0, .int .u8 0, .int .u8 0, .int .u8 0, .int .u8 0, .int .u8 0, .int .u8 0, .int .u8 0, .int .u8 0, .int .u8 0, .int .u8 0, .int .u8 0, .int .u8 0, .int .u8 0, .int .u8 0, .int .u8 0, .int .u8 0, .int .u8 0, .int .u8 0, .int .u8 0, .int .u8 0, .int .u8 0, .int .u8 0, .int .u8 0, .int .u8 0, .int .u8 0, .int .u8 0, .int .u8 0, .int .u8 0, .int .u8 0, .int .u8 0, .int .u8 0, .int .u8 0, .int .u8 0, .int .u8 0]) := by kernel_rfl
theorem parts148 : partsOf Tryd.prog 148 = some (.arr 1) := by kernel_rfl
theorem sz149 : szOf Tryd.prog 149 = some 1 := by kernel_rfl
theorem by149 : byOf Tryd.prog 149 = some 8 := by kernel_rfl
theorem row149 : isRowT Tryd.prog 149 = some false := by kernel_rfl
theorem zero149 : zeroOf Tryd.prog 149 = some (.int .u64 0) := by kernel_rfl
theorem sz153 : szOf Tryd.prog 153 = some 1 := by kernel_rfl
theorem by153 : byOf Tryd.prog 153 = some 8 := by kernel_rfl
theorem row153 : isRowT Tryd.prog 153 = some false := by kernel_rfl
theorem zero153 : zeroOf Tryd.prog 153 = some (.pointer none) := by kernel_rfl
theorem body15 : bodyOf Tryd.prog 15 = some (Tryd.f15, (Tryd.f15.body).get rfl) := by
 unfold bodyOf
 rw [Tryd.func15]
 rfl
theorem body18 : bodyOf Tryd.prog 18 = some (Tryd.f18, (Tryd.f18.body).get rfl) := by
 unfold bodyOf
 rw [Tryd.func18]
 rfl
theorem body19 : bodyOf Tryd.prog 19 = some (Tryd.f19, (Tryd.f19.body).get rfl) := by
 unfold bodyOf
 rw [Tryd.func19]
 rfl
theorem body21 : bodyOf Tryd.prog 21 = some (Tryd.f21, (Tryd.f21.body).get rfl) := by
 unfold bodyOf
 rw [Tryd.func21]
 rfl
theorem body23 : bodyOf Tryd.prog 23 = some (Tryd.f23, (Tryd.f23.body).get rfl) := by
 unfold bodyOf
 rw [Tryd.func23]
 rfl
theorem body24 : bodyOf Tryd.prog 24 = some (Tryd.f24, (Tryd.f24.body).get rfl) := by
 unfold bodyOf
 rw [Tryd.func24]
 rfl
theorem body26 : bodyOf Tryd.prog 26 = some (Tryd.f26, (Tryd.f26.body).get rfl) := by
 unfold bodyOf
 rw [Tryd.func26]
 rfl
theorem body28 : bodyOf Tryd.prog 28 = some (Tryd.f28, (Tryd.f28.body).get rfl) := by
 unfold bodyOf
 rw [Tryd.func28]
 rfl
theorem body30 : bodyOf Tryd.prog 30 = some (Tryd.f30, (Tryd.f30.body).get rfl) := by
 unfold bodyOf
 rw [Tryd.func30]
 rfl
theorem body32 : bodyOf Tryd.prog 32 = some (Tryd.f32, (Tryd.f32.body).get rfl) := by
 unfold bodyOf
 rw [Tryd.func32]
 rfl
theorem body33 : bodyOf Tryd.prog 33 = some (Tryd.f33, (Tryd.f33.body).get rfl) := by
 unfold bodyOf
 rw [Tryd.func33]
 rfl
theorem body35 : bodyOf Tryd.prog 35 = some (Tryd.f35, (Tryd.f35.body).get rfl) := by
 unfold bodyOf
 rw [Tryd.func35]
 rfl
theorem body37 : bodyOf Tryd.prog 37 = some (Tryd.f37, (Tryd.f37.body).get rfl) := by
 unfold bodyOf
 rw [Tryd.func37]
 rfl
theorem body39 : bodyOf Tryd.prog 39 = some (Tryd.f39, (Tryd.f39.body).get rfl) := by
 unfold bodyOf
 rw [Tryd.func39]
 rfl
theorem body41 : bodyOf Tryd.prog 41 = some (Tryd.f41, (Tryd.f41.body).get rfl) := by
 unfold bodyOf
 rw [Tryd.func41]
 rfl
theorem body43 : bodyOf Tryd.prog 43 = some (Tryd.f43, (Tryd.f43.body).get rfl) := by
 unfold bodyOf
 rw [Tryd.func43]
 rfl
theorem body45 : bodyOf Tryd.prog 45 = some (Tryd.f45, (Tryd.f45.body).get rfl) := by
 unfold bodyOf
 rw [Tryd.func45]
 rfl
theorem body46 : bodyOf Tryd.prog 46 = some (Tryd.f46, (Tryd.f46.body).get rfl) := by
 unfold bodyOf
 rw [Tryd.func46]
 rfl
theorem body48 : bodyOf Tryd.prog 48 = some (Tryd.f48, (Tryd.f48.body).get rfl) := by
 unfold bodyOf
 rw [Tryd.func48]
 rfl
theorem body51 : bodyOf Tryd.prog 51 = some (Tryd.f51, (Tryd.f51.body).get rfl) := by
 unfold bodyOf
 rw [Tryd.func51]
 rfl
theorem body52 : bodyOf Tryd.prog 52 = some (Tryd.f52, (Tryd.f52.body).get rfl) := by
 unfold bodyOf
 rw [Tryd.func52]
 rfl
theorem body53 : bodyOf Tryd.prog 53 = some (Tryd.f53, (Tryd.f53.body).get rfl) := by
 unfold bodyOf
 rw [Tryd.func53]
 rfl
theorem body54 : bodyOf Tryd.prog 54 = some (Tryd.f54, (Tryd.f54.body).get rfl) := by
 unfold bodyOf
 rw [Tryd.func54]
 rfl
theorem body55 : bodyOf Tryd.prog 55 = some (Tryd.f55, (Tryd.f55.body).get rfl) := by
 unfold bodyOf
 rw [Tryd.func55]
 rfl
theorem body58 : bodyOf Tryd.prog 58 = some (Tryd.f58, (Tryd.f58.body).get rfl) := by
 unfold bodyOf
 rw [Tryd.func58]
 rfl
theorem body59 : bodyOf Tryd.prog 59 = some (Tryd.f59, (Tryd.f59.body).get rfl) := by
 unfold bodyOf
 rw [Tryd.func59]
 rfl
theorem body60 : bodyOf Tryd.prog 60 = some (Tryd.f60, (Tryd.f60.body).get rfl) := by
 unfold bodyOf
 rw [Tryd.func60]
 rfl
theorem body61 : bodyOf Tryd.prog 61 = some (Tryd.f61, (Tryd.f61.body).get rfl) := by
 unfold bodyOf
 rw [Tryd.func61]
 rfl
theorem body62 : bodyOf Tryd.prog 62 = some (Tryd.f62, (Tryd.f62.body).get rfl) := by
 unfold bodyOf
 rw [Tryd.func62]
 rfl
theorem body66 : bodyOf Tryd.prog 66 = some (Tryd.f66, (Tryd.f66.body).get rfl) := by
 unfold bodyOf
 rw [Tryd.func66]
 rfl
theorem body68 : bodyOf Tryd.prog 68 = some (Tryd.f68, (Tryd.f68.body).get rfl) := by
 unfold bodyOf
 rw [Tryd.func68]
 rfl
theorem body70 : bodyOf Tryd.prog 70 = some (Tryd.f70, (Tryd.f70.body).get rfl) := by
 unfold bodyOf
 rw [Tryd.func70]
 rfl
theorem body71 : bodyOf Tryd.prog 71 = some (Tryd.f71, (Tryd.f71.body).get rfl) := by
 unfold bodyOf
 rw [Tryd.func71]
 rfl
theorem body73 : bodyOf Tryd.prog 73 = some (Tryd.f73, (Tryd.f73.body).get rfl) := by
 unfold bodyOf
 rw [Tryd.func73]
 rfl
theorem body74 : bodyOf Tryd.prog 74 = some (Tryd.f74, (Tryd.f74.body).get rfl) := by
 unfold bodyOf
 rw [Tryd.func74]
 rfl
theorem body75 : bodyOf Tryd.prog 75 = some (Tryd.f75, (Tryd.f75.body).get rfl) := by
 unfold bodyOf
 rw [Tryd.func75]
 rfl
theorem body77 : bodyOf Tryd.prog 77 = some (Tryd.f77, (Tryd.f77.body).get rfl) := by
 unfold bodyOf
 rw [Tryd.func77]
 rfl
theorem body78 : bodyOf Tryd.prog 78 = some (Tryd.f78, (Tryd.f78.body).get rfl) := by
 unfold bodyOf
 rw [Tryd.func78]
 rfl
theorem body79 : bodyOf Tryd.prog 79 = some (Tryd.f79, (Tryd.f79.body).get rfl) := by
 unfold bodyOf
 rw [Tryd.func79]
 rfl
theorem body81 : bodyOf Tryd.prog 81 = some (Tryd.f81, (Tryd.f81.body).get rfl) := by
 unfold bodyOf
 rw [Tryd.func81]
 rfl
theorem body82 : bodyOf Tryd.prog 82 = some (Tryd.f82, (Tryd.f82.body).get rfl) := by
 unfold bodyOf
 rw [Tryd.func82]
 rfl
theorem body84 : bodyOf Tryd.prog 84 = some (Tryd.f84, (Tryd.f84.body).get rfl) := by
 unfold bodyOf
 rw [Tryd.func84]
 rfl
theorem body86 : bodyOf Tryd.prog 86 = some (Tryd.f86, (Tryd.f86.body).get rfl) := by
 unfold bodyOf
 rw [Tryd.func86]
 rfl
theorem body87 : bodyOf Tryd.prog 87 = some (Tryd.f87, (Tryd.f87.body).get rfl) := by
 unfold bodyOf
 rw [Tryd.func87]
 rfl
theorem body90 : bodyOf Tryd.prog 90 = some (Tryd.f90, (Tryd.f90.body).get rfl) := by
 unfold bodyOf
 rw [Tryd.func90]
 rfl
theorem body92 : bodyOf Tryd.prog 92 = some (Tryd.f92, (Tryd.f92.body).get rfl) := by
 unfold bodyOf
 rw [Tryd.func92]
 rfl
theorem body98 : bodyOf Tryd.prog 98 = some (Tryd.f98, (Tryd.f98.body).get rfl) := by
 unfold bodyOf
 rw [Tryd.func98]
 rfl
theorem body99 : bodyOf Tryd.prog 99 = some (Tryd.f99, (Tryd.f99.body).get rfl) := by
 unfold bodyOf
 rw [Tryd.func99]
 rfl
theorem body104 : bodyOf Tryd.prog 104 = some (Tryd.f104, (Tryd.f104.body).get rfl) := by
 unfold bodyOf
 rw [Tryd.func104]
 rfl
theorem body105 : bodyOf Tryd.prog 105 = some (Tryd.f105, (Tryd.f105.body).get rfl) := by
 unfold bodyOf
 rw [Tryd.func105]
 rfl
theorem body110 : bodyOf Tryd.prog 110 = some (Tryd.f110, (Tryd.f110.body).get rfl) := by
 unfold bodyOf
 rw [Tryd.func110]
 rfl
end Go.Proofs.YtcdhajbhpnbdkaaDoor

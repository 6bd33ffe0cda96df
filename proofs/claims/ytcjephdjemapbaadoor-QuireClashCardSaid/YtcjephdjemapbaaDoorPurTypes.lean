/-
  The seat's policy for the pure evaluator, and what its types are (printed by a tool).
  Conditions: none; closed facts.
-/
import Derived.Test.YtcjephdjemapbaaDoorPurB
import Derived.Test.YtcjephdjemapbaaDoorProg
set_option linter.unusedSimpArgs false
set_option linter.unusedVariables false
namespace Go.Proofs.YtcjephdjemapbaaDoor
open Go.Abs Go.Pur
def masks : List Nat := [0, 0, 0, 1180591620717413924861, 655303, 40957, 637, 2658750086509689157938568670291951603, 4722367049668963082227, 2305952961316257779, 81169477356075197329265840421875, 22300766476563184089252123815808907170283507, 11972621413014756705944868559215442167445350938312703, 171470431897121230903399775138923544519, 20287051879389294925504632053747, 365397710460741922965137975298120933248430243783, 93536729210053979447083975501229367520229068898063, 302231454903657295773695, 285, 2301, 251667453, 8800388026365, 33571891, 285, 2301, 2301, 16637, 5, 5, 8813276578045, 137447351293, 8726020605, 1090586877, 36507500999, 284541585607, 285, 285, 18446744074790700029, 302231454903658369548797, 33571891, 81763463733686355156158495932349, 73791497555372217341, 3699, 17181970547, 2125949, 31, 3699, 5, 541, 5, 19, 21, 525, 525, 119, 8797099664253, 1300619419958940558926143639650301, 14365, 7340221, 8455165, 4295, 2147623695, 34877, 16397, 32957, 2093, 131271, 4296016327, 66483, 32925, 16806963, 131635, 33571891, 8211, 65555, 66109, 4243, 32915, 262771, 67240563, 379892319529162072251379, 1143, 157, 140738562131955, 16777267, 2097171, 5, 5, 19, 1037, 19, 281518060864637, 4723277, 2097283, 51, 115, 5, 19, 5, 277, 16661, 21, 21, 316912838952437276284744179709, 15663183516433892416764882583213662997805349754095402995, 5, 524353, 19, 147, 19, 1037, 5, 3, 1, 1, 1125899940399155, 19, 3, 1, 1, 1, 1, 1, 1, 1, 1, 1, 1, 1, 1, 1, 1, 1, 1, 1, 0, 0, 0, 0, 0, 0, 0]
def keepOf (f t : Nat) : Bool := masks.getD f 0 / 2 ^ t % 2 == 1
theorem keep9 (t : Nat) : keepOf 9 t = (2305952961316257779 / 2 ^ t % 2 == 1) := rfl
theorem keep15 (t : Nat) : keepOf 15 t = (365397710460741922965137975298120933248430243783 / 2 ^ t % 2 == 1) := rfl
theorem keep17 (t : Nat) : keepOf 17 t = (302231454903657295773695 / 2 ^ t % 2 == 1) := rfl
theorem keep18 (t : Nat) : keepOf 18 t = (285 / 2 ^ t % 2 == 1) := rfl
theorem keep19 (t : Nat) : keepOf 19 t = (2301 / 2 ^ t % 2 == 1) := rfl
theorem keep20 (t : Nat) : keepOf 20 t = (251667453 / 2 ^ t % 2 == 1) := rfl
theorem keep21 (t : Nat) : keepOf 21 t = (8800388026365 / 2 ^ t % 2 == 1) := rfl
theorem keep22 (t : Nat) : keepOf 22 t = (33571891 / 2 ^ t % 2 == 1) := rfl
theorem keep23 (t : Nat) : keepOf 23 t = (285 / 2 ^ t % 2 == 1) := rfl
theorem keep24 (t : Nat) : keepOf 24 t = (2301 / 2 ^ t % 2 == 1) := rfl
theorem keep25 (t : Nat) : keepOf 25 t = (2301 / 2 ^ t % 2 == 1) := rfl
theorem keep26 (t : Nat) : keepOf 26 t = (16637 / 2 ^ t % 2 == 1) := rfl
theorem keep27 (t : Nat) : keepOf 27 t = (5 / 2 ^ t % 2 == 1) := rfl
theorem keep29 (t : Nat) : keepOf 29 t = (8813276578045 / 2 ^ t % 2 == 1) := rfl
theorem keep30 (t : Nat) : keepOf 30 t = (137447351293 / 2 ^ t % 2 == 1) := rfl
theorem keep31 (t : Nat) : keepOf 31 t = (8726020605 / 2 ^ t % 2 == 1) := rfl
theorem keep32 (t : Nat) : keepOf 32 t = (1090586877 / 2 ^ t % 2 == 1) := rfl
theorem keep33 (t : Nat) : keepOf 33 t = (36507500999 / 2 ^ t % 2 == 1) := rfl
theorem keep34 (t : Nat) : keepOf 34 t = (284541585607 / 2 ^ t % 2 == 1) := rfl
theorem keep35 (t : Nat) : keepOf 35 t = (285 / 2 ^ t % 2 == 1) := rfl
theorem keep36 (t : Nat) : keepOf 36 t = (285 / 2 ^ t % 2 == 1) := rfl
theorem keep37 (t : Nat) : keepOf 37 t = (18446744074790700029 / 2 ^ t % 2 == 1) := rfl
theorem keep38 (t : Nat) : keepOf 38 t = (302231454903658369548797 / 2 ^ t % 2 == 1) := rfl
theorem keep39 (t : Nat) : keepOf 39 t = (33571891 / 2 ^ t % 2 == 1) := rfl
theorem keep40 (t : Nat) : keepOf 40 t = (81763463733686355156158495932349 / 2 ^ t % 2 == 1) := rfl
theorem keep41 (t : Nat) : keepOf 41 t = (73791497555372217341 / 2 ^ t % 2 == 1) := rfl
theorem keep42 (t : Nat) : keepOf 42 t = (3699 / 2 ^ t % 2 == 1) := rfl
theorem keep43 (t : Nat) : keepOf 43 t = (17181970547 / 2 ^ t % 2 == 1) := rfl
theorem keep47 (t : Nat) : keepOf 47 t = (5 / 2 ^ t % 2 == 1) := rfl
theorem keep48 (t : Nat) : keepOf 48 t = (541 / 2 ^ t % 2 == 1) := rfl
theorem keep49 (t : Nat) : keepOf 49 t = (5 / 2 ^ t % 2 == 1) := rfl
theorem keep50 (t : Nat) : keepOf 50 t = (19 / 2 ^ t % 2 == 1) := rfl
theorem keep51 (t : Nat) : keepOf 51 t = (21 / 2 ^ t % 2 == 1) := rfl
theorem keep55 (t : Nat) : keepOf 55 t = (8797099664253 / 2 ^ t % 2 == 1) := rfl
theorem keep56 (t : Nat) : keepOf 56 t = (1300619419958940558926143639650301 / 2 ^ t % 2 == 1) := rfl
theorem keep57 (t : Nat) : keepOf 57 t = (14365 / 2 ^ t % 2 == 1) := rfl
theorem keep58 (t : Nat) : keepOf 58 t = (7340221 / 2 ^ t % 2 == 1) := rfl
theorem keep59 (t : Nat) : keepOf 59 t = (8455165 / 2 ^ t % 2 == 1) := rfl
theorem keep60 (t : Nat) : keepOf 60 t = (4295 / 2 ^ t % 2 == 1) := rfl
theorem keep62 (t : Nat) : keepOf 62 t = (34877 / 2 ^ t % 2 == 1) := rfl
theorem keep63 (t : Nat) : keepOf 63 t = (16397 / 2 ^ t % 2 == 1) := rfl
theorem keep64 (t : Nat) : keepOf 64 t = (32957 / 2 ^ t % 2 == 1) := rfl
theorem keep65 (t : Nat) : keepOf 65 t = (2093 / 2 ^ t % 2 == 1) := rfl
theorem keep66 (t : Nat) : keepOf 66 t = (131271 / 2 ^ t % 2 == 1) := rfl
theorem keep67 (t : Nat) : keepOf 67 t = (4296016327 / 2 ^ t % 2 == 1) := rfl
theorem keep68 (t : Nat) : keepOf 68 t = (66483 / 2 ^ t % 2 == 1) := rfl
theorem keep69 (t : Nat) : keepOf 69 t = (32925 / 2 ^ t % 2 == 1) := rfl
theorem keep70 (t : Nat) : keepOf 70 t = (16806963 / 2 ^ t % 2 == 1) := rfl
theorem keep71 (t : Nat) : keepOf 71 t = (131635 / 2 ^ t % 2 == 1) := rfl
theorem keep72 (t : Nat) : keepOf 72 t = (33571891 / 2 ^ t % 2 == 1) := rfl
theorem keep75 (t : Nat) : keepOf 75 t = (66109 / 2 ^ t % 2 == 1) := rfl
theorem keep76 (t : Nat) : keepOf 76 t = (4243 / 2 ^ t % 2 == 1) := rfl
theorem keep77 (t : Nat) : keepOf 77 t = (32915 / 2 ^ t % 2 == 1) := rfl
theorem keep82 (t : Nat) : keepOf 82 t = (157 / 2 ^ t % 2 == 1) := rfl
theorem keep83 (t : Nat) : keepOf 83 t = (140738562131955 / 2 ^ t % 2 == 1) := rfl
theorem keep84 (t : Nat) : keepOf 84 t = (16777267 / 2 ^ t % 2 == 1) := rfl
theorem keep85 (t : Nat) : keepOf 85 t = (2097171 / 2 ^ t % 2 == 1) := rfl
theorem keep86 (t : Nat) : keepOf 86 t = (5 / 2 ^ t % 2 == 1) := rfl
theorem keep87 (t : Nat) : keepOf 87 t = (5 / 2 ^ t % 2 == 1) := rfl
theorem keep88 (t : Nat) : keepOf 88 t = (19 / 2 ^ t % 2 == 1) := rfl
theorem keep100 (t : Nat) : keepOf 100 t = (16661 / 2 ^ t % 2 == 1) := rfl
theorem keep102 (t : Nat) : keepOf 102 t = (21 / 2 ^ t % 2 == 1) := rfl
theorem sz3 : szOf Tryd.prog 3 = some 1 := by kernel_rfl
theorem by3 : byOf Tryd.prog 3 = some 8 := by kernel_rfl
theorem row3 : isRowT Tryd.prog 3 = some false := by kernel_rfl
theorem zero3 : zeroOf Tryd.prog 3 = some (.int .i64 0) := by kernel_rfl
theorem sz4 : szOf Tryd.prog 4 = some 1 := by kernel_rfl
theorem by4 : byOf Tryd.prog 4 = some 1 := by kernel_rfl
theorem row4 : isRowT Tryd.prog 4 = some false := by kernel_rfl
theorem zero4 : zeroOf Tryd.prog 4 = some (.bool false) := by kernel_rfl
theorem sz5 : szOf Tryd.prog 5 = some 1 := by kernel_rfl
theorem by5 : byOf Tryd.prog 5 = some 1 := by kernel_rfl
theorem row5 : isRowT Tryd.prog 5 = some false := by kernel_rfl
theorem zero5 : zeroOf Tryd.prog 5 = some (.int .u8 0) := by kernel_rfl
theorem sz9 : szOf Tryd.prog 9 = some 1 := by kernel_rfl
theorem by9 : byOf Tryd.prog 9 = some 16 := by kernel_rfl
theorem row9 : isRowT Tryd.prog 9 = some false := by kernel_rfl
theorem shape9 : shapeOf Tryd.prog 9 = some .string := by kernel_rfl
theorem zero9 : zeroOf Tryd.prog 9 = some (.string ⟨#[]⟩) := by kernel_rfl
theorem sz21 : szOf Tryd.prog 21 = some 1 := by kernel_rfl
theorem by21 : byOf Tryd.prog 21 = some 4 := by kernel_rfl
theorem row21 : isRowT Tryd.prog 21 = some false := by kernel_rfl
theorem zero21 : zeroOf Tryd.prog 21 = some (.int .i32 0) := by kernel_rfl
theorem sz23 : szOf Tryd.prog 23 = some 1 := by kernel_rfl
theorem by23 : byOf Tryd.prog 23 = some 24 := by kernel_rfl
theorem row23 : isRowT Tryd.prog 23 = some false := by kernel_rfl
theorem shape23 : shapeOf Tryd.prog 23 = some (.slice 3 1) := by kernel_rfl
theorem zero23 : zeroOf Tryd.prog 23 = some (.slice none 0 0) := by kernel_rfl
theorem sz24 : szOf Tryd.prog 24 = some 1 := by kernel_rfl
theorem by24 : byOf Tryd.prog 24 = some 8 := by kernel_rfl
theorem row24 : isRowT Tryd.prog 24 = some false := by kernel_rfl
theorem zero24 : zeroOf Tryd.prog 24 = some (.int .i64 0) := by kernel_rfl
theorem sz38 : szOf Tryd.prog 38 = some 1 := by kernel_rfl
theorem by38 : byOf Tryd.prog 38 = some 24 := by kernel_rfl
theorem row38 : isRowT Tryd.prog 38 = some false := by kernel_rfl
theorem shape38 : shapeOf Tryd.prog 38 = some (.slice 47 2) := by kernel_rfl
theorem zero38 : zeroOf Tryd.prog 38 = some (.slice none 0 0) := by kernel_rfl
theorem sz47 : szOf Tryd.prog 47 = some 2 := by kernel_rfl
theorem by47 : byOf Tryd.prog 47 = some 16 := by kernel_rfl
theorem row47 : isRowT Tryd.prog 47 = some true := by kernel_rfl
theorem shape47 : shapeOf Tryd.prog 47 = some (.array 2 3 1) := by kernel_rfl
theorem zero47 : zeroOf Tryd.prog 47 = some (.agg #[.int .i64 0, .int .i64 0]) := by kernel_rfl
theorem parts47 : partsOf Tryd.prog 47 = some (.arr 1) := by kernel_rfl
theorem sz51 : szOf Tryd.prog 51 = some 1 := by kernel_rfl
theorem by51 : byOf Tryd.prog 51 = some 8 := by kernel_rfl
theorem row51 : isRowT Tryd.prog 51 = some false := by kernel_rfl
theorem zero51 : zeroOf Tryd.prog 51 = some (.int .u64 0) := by kernel_rfl
theorem sz54 : szOf Tryd.prog 54 = some 1 := by kernel_rfl
theorem by54 : byOf Tryd.prog 54 = some 24 := by kernel_rfl
theorem row54 : isRowT Tryd.prog 54 = some false := by kernel_rfl
theorem shape54 : shapeOf Tryd.prog 54 = some (.slice 9 1) := by kernel_rfl
theorem zero54 : zeroOf Tryd.prog 54 = some (.slice none 0 0) := by kernel_rfl
theorem sz55 : szOf Tryd.prog 55 = some 1 := by kernel_rfl
theorem by55 : byOf Tryd.prog 55 = some 24 := by kernel_rfl
theorem row55 : isRowT Tryd.prog 55 = some false := by kernel_rfl
theorem shape55 : shapeOf Tryd.prog 55 = some (.slice 4 1) := by kernel_rfl
theorem zero55 : zeroOf Tryd.prog 55 = some (.slice none 0 0) := by kernel_rfl
theorem sz58 : szOf Tryd.prog 58 = some 1 := by kernel_rfl
theorem by58 : byOf Tryd.prog 58 = some 24 := by kernel_rfl
theorem row58 : isRowT Tryd.prog 58 = some false := by kernel_rfl
theorem shape58 : shapeOf Tryd.prog 58 = some (.slice 60 1) := by kernel_rfl
theorem zero58 : zeroOf Tryd.prog 58 = some (.slice none 0 0) := by kernel_rfl
theorem sz60 : szOf Tryd.prog 60 = some 1 := by kernel_rfl
theorem by60 : byOf Tryd.prog 60 = some 1 := by kernel_rfl
theorem row60 : isRowT Tryd.prog 60 = some false := by kernel_rfl
theorem zero60 : zeroOf Tryd.prog 60 = some (.int .i8 0) := by kernel_rfl
theorem sz63 : szOf Tryd.prog 63 = some 1 := by kernel_rfl
theorem by63 : byOf Tryd.prog 63 = some 24 := by kernel_rfl
theorem row63 : isRowT Tryd.prog 63 = some false := by kernel_rfl
theorem shape63 : shapeOf Tryd.prog 63 = some (.slice 23 1) := by kernel_rfl
theorem zero63 : zeroOf Tryd.prog 63 = some (.slice none 0 0) := by kernel_rfl
theorem sz73 : szOf Tryd.prog 73 = some 2 := by kernel_rfl
theorem by73 : byOf Tryd.prog 73 = some 48 := by kernel_rfl
theorem row73 : isRowT Tryd.prog 73 = some true := by kernel_rfl
theorem shape73 : shapeOf Tryd.prog 73 = some (.array 2 23 1) := by kernel_rfl
theorem zero73 : zeroOf Tryd.prog 73 = some (.agg #[.slice none 0 0, .slice none 0 0]) := by kernel_rfl
theorem parts73 : partsOf Tryd.prog 73 = some (.arr 1) := by kernel_rfl
theorem sz79 : szOf Tryd.prog 79 = some 1 := by kernel_rfl
theorem by79 : byOf Tryd.prog 79 = some 24 := by kernel_rfl
theorem row79 : isRowT Tryd.prog 79 = some false := by kernel_rfl
theorem shape79 : shapeOf Tryd.prog 79 = some (.slice 5 1) := by kernel_rfl
theorem zero79 : zeroOf Tryd.prog 79 = some (.slice none 0 0) := by kernel_rfl
theorem sz81 : szOf Tryd.prog 81 = some 4 := by kernel_rfl
theorem by81 : byOf Tryd.prog 81 = some 32 := by kernel_rfl
theorem row81 : isRowT Tryd.prog 81 = some true := by kernel_rfl
theorem shape81 : shapeOf Tryd.prog 81 = some (.array 2 47 2) := by kernel_rfl
theorem zero81 : zeroOf Tryd.prog 81 = some (.agg #[.int .i64 0, .int .i64 0, .int .i64 0, .int .i64 0]) := by kernel_rfl
theorem parts81 : partsOf Tryd.prog 81 = some (.arr 2) := by kernel_rfl
theorem sz86 : szOf Tryd.prog 86 = some 256 := by kernel_rfl
theorem by86 : byOf Tryd.prog 86 = some 256 := by kernel_rfl
theorem row86 : isRowT Tryd.prog 86 = some true := by kernel_rfl
theorem shape86 : shapeOf Tryd.prog 86 = some (.array 256 4 1) := by kernel_rfl
theorem parts86 : partsOf Tryd.prog 86 = some (.arr 1) := by kernel_rfl
theorem sz90 : szOf Tryd.prog 90 = some 1 := by kernel_rfl
theorem by90 : byOf Tryd.prog 90 = some 8 := by kernel_rfl
theorem row90 : isRowT Tryd.prog 90 = some false := by kernel_rfl
theorem zero90 : zeroOf Tryd.prog 90 = some (.pointer none) := by kernel_rfl
theorem sz92 : szOf Tryd.prog 92 = some 1 := by kernel_rfl
theorem by92 : byOf Tryd.prog 92 = some 8 := by kernel_rfl
theorem row92 : isRowT Tryd.prog 92 = some false := by kernel_rfl
theorem zero92 : zeroOf Tryd.prog 92 = some (.nilFunc) := by kernel_rfl
theorem sz96 : szOf Tryd.prog 96 = some 4 := by kernel_rfl
theorem by96 : byOf Tryd.prog 96 = some 32 := by kernel_rfl
theorem row96 : isRowT Tryd.prog 96 = some true := by kernel_rfl
theorem zero96 : zeroOf Tryd.prog 96 = some (.agg #[.int .i64 0, .int .i64 0, .int .i64 0, .int .i64 0]) := by kernel_rfl
theorem parts96 : partsOf Tryd.prog 96 = some (.rows [(0, 2), (2, 2)]) := by kernel_rfl
theorem field96_0 : fieldOf Tryd.prog 96 0 = some (47, 0, 2) := by kernel_rfl
theorem field96_1 : fieldOf Tryd.prog 96 1 = some (47, 2, 2) := by kernel_rfl
theorem sz99 : szOf Tryd.prog 99 = some 1 := by kernel_rfl
theorem by99 : byOf Tryd.prog 99 = some 8 := by kernel_rfl
theorem row99 : isRowT Tryd.prog 99 = some false := by kernel_rfl
theorem zero99 : zeroOf Tryd.prog 99 = some (.int .u64 0) := by kernel_rfl
theorem sz104 : szOf Tryd.prog 104 = some 1 := by kernel_rfl
theorem by104 : byOf Tryd.prog 104 = some 8 := by kernel_rfl
theorem row104 : isRowT Tryd.prog 104 = some false := by kernel_rfl
theorem zero104 : zeroOf Tryd.prog 104 = some (.pointer none) := by kernel_rfl
theorem sz106 : szOf Tryd.prog 106 = some 2 := by kernel_rfl
theorem by106 : byOf Tryd.prog 106 = some 32 := by kernel_rfl
theorem row106 : isRowT Tryd.prog 106 = some true := by kernel_rfl
theorem zero106 : zeroOf Tryd.prog 106 = some (.agg #[.pointer none, .slice none 0 0]) := by kernel_rfl
theorem parts106 : partsOf Tryd.prog 106 = some (.rows [(0, 1), (1, 1)]) := by kernel_rfl
theorem field106_0 : fieldOf Tryd.prog 106 0 = some (104, 0, 1) := by kernel_rfl
theorem field106_1 : fieldOf Tryd.prog 106 1 = some (79, 1, 1) := by kernel_rfl
theorem sz119 : szOf Tryd.prog 119 = some 1 := by kernel_rfl
theorem by119 : byOf Tryd.prog 119 = some 4 := by kernel_rfl
theorem row119 : isRowT Tryd.prog 119 = some false := by kernel_rfl
theorem zero119 : zeroOf Tryd.prog 119 = some (.int .u32 0) := by kernel_rfl
theorem sz123 : szOf Tryd.prog 123 = some 1 := by kernel_rfl
theorem by123 : byOf Tryd.prog 123 = some 8 := by kernel_rfl
theorem row123 : isRowT Tryd.prog 123 = some false := by kernel_rfl
theorem zero123 : zeroOf Tryd.prog 123 = some (.pointer none) := by kernel_rfl
theorem sz124 : szOf Tryd.prog 124 = some 32 := by kernel_rfl
theorem by124 : byOf Tryd.prog 124 = some 32 := by kernel_rfl
theorem row124 : isRowT Tryd.prog 124 = some true := by kernel_rfl
theorem shape124 : shapeOf Tryd.prog 124 = some (.array 32 5 1) := by kernel_rfl
theorem zero124 : zeroOf Tryd.prog 124 = some (.agg #[.int .u8 0, .int .u8 0, .int .u8 0, .int .u8 0, .int .u8 0, .int .u8 0, .int .u8 0, .int .u8 0, .int .u8 0, .int .u8 0, .int .u8 0, .int .u8 0, .int .u8 0, .int .u8 0, .int .u8 0, .int .u8 0, .int .u8 0, .int .u8 0, .int .u8 0, .int .u8 0, .int .u8 0, .int .u8 0, .int .u8 0, .int .u8 0, .int .u8 0, .int .u8 0, .int .u8 0, .int .u8 0, .int .u8 0, .int .u8 0, .int .u8 0, .int .u8 0]) := by kernel_rfl
theorem parts124 : partsOf Tryd.prog 124 = some (.arr 1) := by kernel_rfl
theorem sz125 : szOf Tryd.prog 125 = some 64 := by kernel_rfl
theorem by125 : byOf Tryd.prog 125 = some 64 := by kernel_rfl
theorem row125 : isRowT Tryd.prog 125 = some true := by kernel_rfl
theorem shape125 : shapeOf Tryd.prog 125 = some (.array 64 5 1) := by kernel_rfl
theorem zero125 : zeroOf Tryd.prog 125 = some (.agg #[.int .u8 0, .int .u8 0, .int .u8 0, .int .u8 0, .int .u8 0, .int .u8 0, .int .u8 0, .int .u8 0, .int .u8 0, .int .u8 0, .int .u8 0, .int .u8 0, .int .u8 0, .int .u8 0, .int .u8 0, .int .u8 0, .int .u8 0, .int .u8 0, .int .u8 0, .int .u8 0, .int .u8 0, .int .u8 0, .int .u8 0, .int .u8 0, .int .u8 0, .int .u8 0, .int .u8 0, .int .u8 0, .int .u8 0, .int .u8 0, .int .u8 0, .int .u8 0, .int .u8 0, .int .u8 0, .int .u8 0, .int .u8 0, .int .u8 0, .int .u8 0, .int .u8 0, .int .u8 0, .int .u8 0, .int .u8 0, .int .u8 0, .int .u8 0, .int .u8 0, .int .u8 0, .int .u8 0, .int .u8 0, .int .u8 0, .int .u8 0, .int .u8 0, .int .u8 0, .int .u8 0, .int .u8 0, .int .u8 0, .int .u8 0, .int .u8 0, .int .u8 0, .int .u8 0, .int .u8 0, .int .u8 0, .int .u8 0, .int .u8 0, .int .u8 0]) := by kernel_rfl
theorem parts125 : partsOf Tryd.prog 125 = some (.arr 1) := by kernel_rfl
theorem sz126 : szOf Tryd.prog 126 = some 256 := by kernel_rfl
theorem by126 : byOf Tryd.prog 126 = some 256 := by kernel_rfl
theorem row126 : isRowT Tryd.prog 126 = some true := by kernel_rfl
theorem shape126 : shapeOf Tryd.prog 126 = some (.array 256 5 1) := by kernel_rfl
theorem parts126 : partsOf Tryd.prog 126 = some (.arr 1) := by kernel_rfl
theorem sz128 : szOf Tryd.prog 128 = some 2 := by kernel_rfl
theorem by128 : byOf Tryd.prog 128 = some 2 := by kernel_rfl
theorem row128 : isRowT Tryd.prog 128 = some true := by kernel_rfl
theorem zero128 : zeroOf Tryd.prog 128 = some (.agg #[.int .u8 0, .int .u8 0]) := by kernel_rfl
theorem parts128 : partsOf Tryd.prog 128 = some (.rows [(0, 1), (1, 1)]) := by kernel_rfl
theorem field128_0 : fieldOf Tryd.prog 128 0 = some (5, 0, 1) := by kernel_rfl
theorem field128_1 : fieldOf Tryd.prog 128 1 = some (5, 1, 1) := by kernel_rfl
theorem sz129 : szOf Tryd.prog 129 = some 32 := by kernel_rfl
theorem by129 : byOf Tryd.prog 129 = some 32 := by kernel_rfl
theorem row129 : isRowT Tryd.prog 129 = some true := by kernel_rfl
theorem shape129 : shapeOf Tryd.prog 129 = some (.array 16 128 2) := by kernel_rfl
theorem zero129 : zeroOf Tryd.prog 129 = some (.agg #[.int .u8 0, .int .u8 0, .int .u8 0, .int .u8 0, .int .u8 0, .int .u8 0, .int .u8 0, .int .u8 0, .int .u8 0, .int .u8 0, .int .u8 0, .int .u8 0, .int .u8 0, .int .u8 0, .int .u8 0, .int .u8 0, .int .u8 0, .int .u8 0, .int .u8 0, .int .u8 0, .int .u8 0, .int .u8 0, .int .u8 0, .int .u8 0, .int .u8 0, .int .u8 0, .int .u8 0, .int .u8 0, .int .u8 0, .int .u8 0, .int .u8 0, .int .u8 0]) := by kernel_rfl
theorem parts129 : partsOf Tryd.prog 129 = some (.arr 2) := by kernel_rfl
theorem sz133 : szOf Tryd.prog 133 = some 1 := by kernel_rfl
theorem by133 : byOf Tryd.prog 133 = some 8 := by kernel_rfl
theorem row133 : isRowT Tryd.prog 133 = some false := by kernel_rfl
theorem zero133 : zeroOf Tryd.prog 133 = some (.pointer none) := by kernel_rfl
theorem body15 : bodyOf Tryd.prog 15 = some (Tryd.f15, (Tryd.f15.body).get rfl) := by
 unfold bodyOf
 rw [Tryd.func15]
 rfl
theorem body17 : bodyOf Tryd.prog 17 = some (Tryd.f17, (Tryd.f17.body).get rfl) := by
 unfold bodyOf
 rw [Tryd.func17]
 rfl
theorem body18 : bodyOf Tryd.prog 18 = some (Tryd.f18, (Tryd.f18.body).get rfl) := by
 unfold bodyOf
 rw [Tryd.func18]
 rfl
theorem body20 : bodyOf Tryd.prog 20 = some (Tryd.f20, (Tryd.f20.body).get rfl) := by
 unfold bodyOf
 rw [Tryd.func20]
 rfl
theorem body22 : bodyOf Tryd.prog 22 = some (Tryd.f22, (Tryd.f22.body).get rfl) := by
 unfold bodyOf
 rw [Tryd.func22]
 rfl
theorem body23 : bodyOf Tryd.prog 23 = some (Tryd.f23, (Tryd.f23.body).get rfl) := by
 unfold bodyOf
 rw [Tryd.func23]
 rfl
theorem body25 : bodyOf Tryd.prog 25 = some (Tryd.f25, (Tryd.f25.body).get rfl) := by
 unfold bodyOf
 rw [Tryd.func25]
 rfl
theorem body27 : bodyOf Tryd.prog 27 = some (Tryd.f27, (Tryd.f27.body).get rfl) := by
 unfold bodyOf
 rw [Tryd.func27]
 rfl
theorem body29 : bodyOf Tryd.prog 29 = some (Tryd.f29, (Tryd.f29.body).get rfl) := by
 unfold bodyOf
 rw [Tryd.func29]
 rfl
theorem body31 : bodyOf Tryd.prog 31 = some (Tryd.f31, (Tryd.f31.body).get rfl) := by
 unfold bodyOf
 rw [Tryd.func31]
 rfl
theorem body33 : bodyOf Tryd.prog 33 = some (Tryd.f33, (Tryd.f33.body).get rfl) := by
 unfold bodyOf
 rw [Tryd.func33]
 rfl
theorem body35 : bodyOf Tryd.prog 35 = some (Tryd.f35, (Tryd.f35.body).get rfl) := by
 unfold bodyOf
 rw [Tryd.func35]
 rfl
theorem body37 : bodyOf Tryd.prog 37 = some (Tryd.f37, (Tryd.f37.body).get rfl) := by
 unfold bodyOf
 rw [Tryd.func37]
 rfl
theorem body39 : bodyOf Tryd.prog 39 = some (Tryd.f39, (Tryd.f39.body).get rfl) := by
 unfold bodyOf
 rw [Tryd.func39]
 rfl
theorem body40 : bodyOf Tryd.prog 40 = some (Tryd.f40, (Tryd.f40.body).get rfl) := by
 unfold bodyOf
 rw [Tryd.func40]
 rfl
theorem body42 : bodyOf Tryd.prog 42 = some (Tryd.f42, (Tryd.f42.body).get rfl) := by
 unfold bodyOf
 rw [Tryd.func42]
 rfl
theorem body43 : bodyOf Tryd.prog 43 = some (Tryd.f43, (Tryd.f43.body).get rfl) := by
 unfold bodyOf
 rw [Tryd.func43]
 rfl
theorem body47 : bodyOf Tryd.prog 47 = some (Tryd.f47, (Tryd.f47.body).get rfl) := by
 unfold bodyOf
 rw [Tryd.func47]
 rfl
theorem body48 : bodyOf Tryd.prog 48 = some (Tryd.f48, (Tryd.f48.body).get rfl) := by
 unfold bodyOf
 rw [Tryd.func48]
 rfl
theorem body49 : bodyOf Tryd.prog 49 = some (Tryd.f49, (Tryd.f49.body).get rfl) := by
 unfold bodyOf
 rw [Tryd.func49]
 rfl
theorem body55 : bodyOf Tryd.prog 55 = some (Tryd.f55, (Tryd.f55.body).get rfl) := by
 unfold bodyOf
 rw [Tryd.func55]
 rfl
theorem body57 : bodyOf Tryd.prog 57 = some (Tryd.f57, (Tryd.f57.body).get rfl) := by
 unfold bodyOf
 rw [Tryd.func57]
 rfl
theorem body58 : bodyOf Tryd.prog 58 = some (Tryd.f58, (Tryd.f58.body).get rfl) := by
 unfold bodyOf
 rw [Tryd.func58]
 rfl
theorem body60 : bodyOf Tryd.prog 60 = some (Tryd.f60, (Tryd.f60.body).get rfl) := by
 unfold bodyOf
 rw [Tryd.func60]
 rfl
theorem body62 : bodyOf Tryd.prog 62 = some (Tryd.f62, (Tryd.f62.body).get rfl) := by
 unfold bodyOf
 rw [Tryd.func62]
 rfl
theorem body66 : bodyOf Tryd.prog 66 = some (Tryd.f66, (Tryd.f66.body).get rfl) := by
 unfold bodyOf
 rw [Tryd.func66]
 rfl
theorem body68 : bodyOf Tryd.prog 68 = some (Tryd.f68, (Tryd.f68.body).get rfl) := by
 unfold bodyOf
 rw [Tryd.func68]
 rfl
theorem body69 : bodyOf Tryd.prog 69 = some (Tryd.f69, (Tryd.f69.body).get rfl) := by
 unfold bodyOf
 rw [Tryd.func69]
 rfl
theorem body70 : bodyOf Tryd.prog 70 = some (Tryd.f70, (Tryd.f70.body).get rfl) := by
 unfold bodyOf
 rw [Tryd.func70]
 rfl
theorem body75 : bodyOf Tryd.prog 75 = some (Tryd.f75, (Tryd.f75.body).get rfl) := by
 unfold bodyOf
 rw [Tryd.func75]
 rfl
theorem body76 : bodyOf Tryd.prog 76 = some (Tryd.f76, (Tryd.f76.body).get rfl) := by
 unfold bodyOf
 rw [Tryd.func76]
 rfl
theorem body77 : bodyOf Tryd.prog 77 = some (Tryd.f77, (Tryd.f77.body).get rfl) := by
 unfold bodyOf
 rw [Tryd.func77]
 rfl
theorem body84 : bodyOf Tryd.prog 84 = some (Tryd.f84, (Tryd.f84.body).get rfl) := by
 unfold bodyOf
 rw [Tryd.func84]
 rfl
theorem body85 : bodyOf Tryd.prog 85 = some (Tryd.f85, (Tryd.f85.body).get rfl) := by
 unfold bodyOf
 rw [Tryd.func85]
 rfl
theorem body86 : bodyOf Tryd.prog 86 = some (Tryd.f86, (Tryd.f86.body).get rfl) := by
 unfold bodyOf
 rw [Tryd.func86]
 rfl
theorem body87 : bodyOf Tryd.prog 87 = some (Tryd.f87, (Tryd.f87.body).get rfl) := by
 unfold bodyOf
 rw [Tryd.func87]
 rfl
theorem body88 : bodyOf Tryd.prog 88 = some (Tryd.f88, (Tryd.f88.body).get rfl) := by
 unfold bodyOf
 rw [Tryd.func88]
 rfl
theorem body100 : bodyOf Tryd.prog 100 = some (Tryd.f100, (Tryd.f100.body).get rfl) := by
 unfold bodyOf
 rw [Tryd.func100]
 rfl
theorem body102 : bodyOf Tryd.prog 102 = some (Tryd.f102, (Tryd.f102.body).get rfl) := by
 unfold bodyOf
 rw [Tryd.func102]
 rfl
end Go.Proofs.YtcjephdjemapbaaDoor

/-
  The seat's policy for the pure evaluator,and what its types are (printed by a tool).
  What simp needs to carry the pure evaluator through code with symbolic values.
  Unary operations,operations on bits,for the pure evaluator's walk.
  From a call of the pure evaluator that answers true to the row's own words.
  Arguments of a law,as the row reads them,for the pure evaluator.
  The two tables of math/bits that the rows list.
  What is known of functions: of plain values and lists of them.
  The seat's policy for the pure evaluator.
  The start of every call of this seat: the two tables of math/bits that the rows list,as blocks 0 and 1 of the abstract heap.
  Contracts of the library,laid for this seat (by the kit's own programs lay-shelf,lay-plain).
  A text that is built byte by byte: the functions of strings.Builder,and strings.Map.
  strings.Map at texts of ASCII,with a function that gives ASCII.
  exchanged: two letters are exchanged (strings.Map with a closure).
  Strings and numbers,as the rows of this seat read them; the tables that the rows lay.
  Bytes,as the rows of this seat read them: as values; rows of four arguments.
  A runner for the kernel: the pure evaluator's steps in small pieces,with an oracle of calls that are known already; what it answers,the evaluator without fuel answers.
  Strings in the pure evaluator: one byte,and parts.
  Side facts of walks,for simp with omega as discharger.
  Plain pieces of what functions compute,and what the walk needs of each; loops whose plain functions take fuel.
  Arrays of two elements,compared.
  Points,compared.
  The pure evaluator's answers,for proofs in the model: calls whose arguments lie in memory and whose answer is plain.
  slices.Reverse and slices.Clone at numbers,laid for this seat (by the kit's own programs lay-shelf,lay-plain).
  The strings of letters that numbers stand for,by the pure evaluator.
  The reference's check of letters,by the pure evaluator.
  strings.Trim by a set of ASCII letters,by the pure evaluator.
  quire's check of letters,by the pure evaluator.
  pile and Pile,by the pure evaluator.
  Conditions: the rows' own (the tables are as the text lays them).
-/
import Derived.Test.YtcjephdjemapbaaDoorProg
import Derived.Carry
import Derived.Deep.Slices
import Derived.Deep.DeepHandedRow
import Derived.Test.YtcjephdjemapbaaDoorCards
import Derived.Test.YtcjephdjemapbaaDoorTie
import GoSem.PinnedTables
import Derived.Shelf.Small.Utf8
import Derived.Shelf.Strings.Builder1
import Derived.Shelf.Strings.Builder2
import Derived.Test.YtcjephdjemapbaaDoorChecked
import Derived.Deep.DeepFit
import Derived.Deep.DeepMust
import Derived.Deep.LoopGhost
import Derived.Handy
import Derived.Lib.FrozenHead2
import Derived.Lib.OthersKept
import Derived.Shelf.Strings.BuilderF
import Derived.WalkKit
import Derived.Shelf.Slices.Clone
import Derived.Shelf.SlicesE.Reverse
import Derived.Test.YtcjephdjemapbaaDoorPurB
set_option linter.unusedSimpArgs false
set_option linter.unusedVariables false
namespace Go.Proofs.YtcjephdjemapbaaDoor
open Go.Abs Go.Pur
def masks : List Nat := [0,0,0,1180591620717413924861,655303,40957,637,2658750086509689157938568670291951603,4722367049668963082227,2305952961316257779,81169477356075197329265840421875,22300766476563184089252123815808907170283507,11972621413014756705944868559215442167445350938312703,171470431897121230903399775138923544519,20287051879389294925504632053747,365397710460741922965137975298120933248430243783,93536729210053979447083975501229367520229068898063,302231454903657295773695,285,2301,251667453,8800388026365,33571891,285,2301,2301,16637,5,5,8813276578045,137447351293,8726020605,1090586877,36507500999,284541585607,285,285,18446744074790700029,302231454903658369548797,33571891,81763463733686355156158495932349,73791497555372217341,3699,17181970547,2125949,31,3699,5,541,5,19,21,525,525,119,8797099664253,1300619419958940558926143639650301,14365,7340221,8455165,4295,2147623695,34877,16397,32957,2093,131271,4296016327,66483,32925,16806963,131635,33571891,8211,65555,66109,4243,32915,262771,67240563,379892319529162072251379,1143,157,140738562131955,16777267,2097171,5,5,19,1037,19,281518060864637,4723277,2097283,51,115,5,19,5,277,16661,21,21,316912838952437276284744179709,15663183516433892416764882583213662997805349754095402995,5,524353,19,147,19,1037,5,3,1,1,1125899940399155,19,3,1,1,1,1,1,1,1,1,1,1,1,1,1,1,1,1,1,0,0,0,0,0,0,0]
def keepOf (f t : Nat) : Bool := masks.getD f 0 / 2 ^ t % 2 == 1
theorem keep3 (t : Nat) : keepOf 3 t = (1180591620717413924861 / 2 ^ t % 2 == 1) := rfl
theorem keep4 (t : Nat) : keepOf 4 t = (655303 / 2 ^ t % 2 == 1) := rfl
theorem keep5 (t : Nat) : keepOf 5 t = (40957 / 2 ^ t % 2 == 1) := rfl
theorem keep6 (t : Nat) : keepOf 6 t = (637 / 2 ^ t % 2 == 1) := rfl
theorem keep17 (t : Nat) : keepOf 17 t = (302231454903657295773695 / 2 ^ t % 2 == 1) := rfl
theorem keep18 (t : Nat) : keepOf 18 t = (285 / 2 ^ t % 2 == 1) := rfl
theorem keep19 (t : Nat) : keepOf 19 t = (2301 / 2 ^ t % 2 == 1) := rfl
theorem keep20 (t : Nat) : keepOf 20 t = (251667453 / 2 ^ t % 2 == 1) := rfl
theorem keep21 (t : Nat) : keepOf 21 t = (8800388026365 / 2 ^ t % 2 == 1) := rfl
theorem keep22 (t : Nat) : keepOf 22 t = (33571891 / 2 ^ t % 2 == 1) := rfl
theorem keep23 (t : Nat) : keepOf 23 t = (285 / 2 ^ t % 2 == 1) := rfl
theorem keep24 (t : Nat) : keepOf 24 t = (2301 / 2 ^ t % 2 == 1) := rfl
theorem keep25 (t : Nat) : keepOf 25 t = (2301 / 2 ^ t % 2 == 1) := rfl
theorem keep26 (t : Nat) : keepOf 26 t = (16637 / 2 ^ t % 2 == 1) := rfl
theorem keep27 (t : Nat) : keepOf 27 t = (5 / 2 ^ t % 2 == 1) := rfl
theorem keep29 (t : Nat) : keepOf 29 t = (8813276578045 / 2 ^ t % 2 == 1) := rfl
theorem keep30 (t : Nat) : keepOf 30 t = (137447351293 / 2 ^ t % 2 == 1) := rfl
theorem keep31 (t : Nat) : keepOf 31 t = (8726020605 / 2 ^ t % 2 == 1) := rfl
theorem keep32 (t : Nat) : keepOf 32 t = (1090586877 / 2 ^ t % 2 == 1) := rfl
theorem keep33 (t : Nat) : keepOf 33 t = (36507500999 / 2 ^ t % 2 == 1) := rfl
theorem keep34 (t : Nat) : keepOf 34 t = (284541585607 / 2 ^ t % 2 == 1) := rfl
theorem keep35 (t : Nat) : keepOf 35 t = (285 / 2 ^ t % 2 == 1) := rfl
theorem keep36 (t : Nat) : keepOf 36 t = (285 / 2 ^ t % 2 == 1) := rfl
theorem keep37 (t : Nat) : keepOf 37 t = (18446744074790700029 / 2 ^ t % 2 == 1) := rfl
theorem keep38 (t : Nat) : keepOf 38 t = (302231454903658369548797 / 2 ^ t % 2 == 1) := rfl
theorem keep39 (t : Nat) : keepOf 39 t = (33571891 / 2 ^ t % 2 == 1) := rfl
theorem keep40 (t : Nat) : keepOf 40 t = (81763463733686355156158495932349 / 2 ^ t % 2 == 1) := rfl
theorem keep41 (t : Nat) : keepOf 41 t = (73791497555372217341 / 2 ^ t % 2 == 1) := rfl
theorem keep42 (t : Nat) : keepOf 42 t = (3699 / 2 ^ t % 2 == 1) := rfl
theorem keep43 (t : Nat) : keepOf 43 t = (17181970547 / 2 ^ t % 2 == 1) := rfl
theorem keep47 (t : Nat) : keepOf 47 t = (5 / 2 ^ t % 2 == 1) := rfl
theorem keep48 (t : Nat) : keepOf 48 t = (541 / 2 ^ t % 2 == 1) := rfl
theorem keep49 (t : Nat) : keepOf 49 t = (5 / 2 ^ t % 2 == 1) := rfl
theorem keep50 (t : Nat) : keepOf 50 t = (19 / 2 ^ t % 2 == 1) := rfl
theorem keep51 (t : Nat) : keepOf 51 t = (21 / 2 ^ t % 2 == 1) := rfl
theorem keep55 (t : Nat) : keepOf 55 t = (8797099664253 / 2 ^ t % 2 == 1) := rfl
theorem keep56 (t : Nat) : keepOf 56 t = (1300619419958940558926143639650301 / 2 ^ t % 2 == 1) := rfl
theorem keep57 (t : Nat) : keepOf 57 t = (14365 / 2 ^ t % 2 == 1) := rfl
theorem keep58 (t : Nat) : keepOf 58 t = (7340221 / 2 ^ t % 2 == 1) := rfl
theorem keep59 (t : Nat) : keepOf 59 t = (8455165 / 2 ^ t % 2 == 1) := rfl
theorem keep60 (t : Nat) : keepOf 60 t = (4295 / 2 ^ t % 2 == 1) := rfl
theorem keep62 (t : Nat) : keepOf 62 t = (34877 / 2 ^ t % 2 == 1) := rfl
theorem keep63 (t : Nat) : keepOf 63 t = (16397 / 2 ^ t % 2 == 1) := rfl
theorem keep64 (t : Nat) : keepOf 64 t = (32957 / 2 ^ t % 2 == 1) := rfl
theorem keep65 (t : Nat) : keepOf 65 t = (2093 / 2 ^ t % 2 == 1) := rfl
theorem keep66 (t : Nat) : keepOf 66 t = (131271 / 2 ^ t % 2 == 1) := rfl
theorem keep67 (t : Nat) : keepOf 67 t = (4296016327 / 2 ^ t % 2 == 1) := rfl
theorem keep68 (t : Nat) : keepOf 68 t = (66483 / 2 ^ t % 2 == 1) := rfl
theorem keep69 (t : Nat) : keepOf 69 t = (32925 / 2 ^ t % 2 == 1) := rfl
theorem keep70 (t : Nat) : keepOf 70 t = (16806963 / 2 ^ t % 2 == 1) := rfl
theorem keep71 (t : Nat) : keepOf 71 t = (131635 / 2 ^ t % 2 == 1) := rfl
theorem keep72 (t : Nat) : keepOf 72 t = (33571891 / 2 ^ t % 2 == 1) := rfl
theorem keep75 (t : Nat) : keepOf 75 t = (66109 / 2 ^ t % 2 == 1) := rfl
theorem keep76 (t : Nat) : keepOf 76 t = (4243 / 2 ^ t % 2 == 1) := rfl
theorem keep77 (t : Nat) : keepOf 77 t = (32915 / 2 ^ t % 2 == 1) := rfl
theorem keep82 (t : Nat) : keepOf 82 t = (157 / 2 ^ t % 2 == 1) := rfl
theorem keep83 (t : Nat) : keepOf 83 t = (140738562131955 / 2 ^ t % 2 == 1) := rfl
theorem keep84 (t : Nat) : keepOf 84 t = (16777267 / 2 ^ t % 2 == 1) := rfl
theorem keep85 (t : Nat) : keepOf 85 t = (2097171 / 2 ^ t % 2 == 1) := rfl
theorem keep86 (t : Nat) : keepOf 86 t = (5 / 2 ^ t % 2 == 1) := rfl
theorem keep87 (t : Nat) : keepOf 87 t = (5 / 2 ^ t % 2 == 1) := rfl
theorem keep88 (t : Nat) : keepOf 88 t = (19 / 2 ^ t % 2 == 1) := rfl
theorem keep100 (t : Nat) : keepOf 100 t = (16661 / 2 ^ t % 2 == 1) := rfl
theorem keep102 (t : Nat) : keepOf 102 t = (21 / 2 ^ t % 2 == 1) := rfl
theorem sz3 : szOf Tryd.prog 3 = some 1 := by kernel_rfl
theorem by3 : byOf Tryd.prog 3 = some 8 := by kernel_rfl
theorem row3 : isRowT Tryd.prog 3 = some false := by kernel_rfl
theorem zero3 : zeroOf Tryd.prog 3 = some (.int .i64 0) := by kernel_rfl
theorem sz4 : szOf Tryd.prog 4 = some 1 := by kernel_rfl
theorem by4 : byOf Tryd.prog 4 = some 1 := by kernel_rfl
theorem row4 : isRowT Tryd.prog 4 = some false := by kernel_rfl
theorem zero4 : zeroOf Tryd.prog 4 = some (.bool false) := by kernel_rfl
theorem sz5 : szOf Tryd.prog 5 = some 1 := by kernel_rfl
theorem by5 : byOf Tryd.prog 5 = some 1 := by kernel_rfl
theorem row5 : isRowT Tryd.prog 5 = some false := by kernel_rfl
theorem zero5 : zeroOf Tryd.prog 5 = some (.int .u8 0) := by kernel_rfl
theorem sz9 : szOf Tryd.prog 9 = some 1 := by kernel_rfl
theorem by9 : byOf Tryd.prog 9 = some 16 := by kernel_rfl
theorem row9 : isRowT Tryd.prog 9 = some false := by kernel_rfl
theorem shape9 : shapeOf Tryd.prog 9 = some .string := by kernel_rfl
theorem zero9 : zeroOf Tryd.prog 9 = some (.string ⟨#[]⟩) := by kernel_rfl
theorem sz21 : szOf Tryd.prog 21 = some 1 := by kernel_rfl
theorem by21 : byOf Tryd.prog 21 = some 4 := by kernel_rfl
theorem row21 : isRowT Tryd.prog 21 = some false := by kernel_rfl
theorem zero21 : zeroOf Tryd.prog 21 = some (.int .i32 0) := by kernel_rfl
theorem sz23 : szOf Tryd.prog 23 = some 1 := by kernel_rfl
theorem by23 : byOf Tryd.prog 23 = some 24 := by kernel_rfl
theorem row23 : isRowT Tryd.prog 23 = some false := by kernel_rfl
theorem shape23 : shapeOf Tryd.prog 23 = some (.slice 3 1) := by kernel_rfl
theorem zero23 : zeroOf Tryd.prog 23 = some (.slice none 0 0) := by kernel_rfl
theorem sz24 : szOf Tryd.prog 24 = some 1 := by kernel_rfl
theorem by24 : byOf Tryd.prog 24 = some 8 := by kernel_rfl
theorem row24 : isRowT Tryd.prog 24 = some false := by kernel_rfl
theorem zero24 : zeroOf Tryd.prog 24 = some (.int .i64 0) := by kernel_rfl
theorem sz38 : szOf Tryd.prog 38 = some 1 := by kernel_rfl
theorem by38 : byOf Tryd.prog 38 = some 24 := by kernel_rfl
theorem row38 : isRowT Tryd.prog 38 = some false := by kernel_rfl
theorem shape38 : shapeOf Tryd.prog 38 = some (.slice 47 2) := by kernel_rfl
theorem zero38 : zeroOf Tryd.prog 38 = some (.slice none 0 0) := by kernel_rfl
theorem sz47 : szOf Tryd.prog 47 = some 2 := by kernel_rfl
theorem by47 : byOf Tryd.prog 47 = some 16 := by kernel_rfl
theorem row47 : isRowT Tryd.prog 47 = some true := by kernel_rfl
theorem shape47 : shapeOf Tryd.prog 47 = some (.array 2 3 1) := by kernel_rfl
theorem zero47 : zeroOf Tryd.prog 47 = some (.agg #[.int .i64 0,.int .i64 0]) := by kernel_rfl
theorem parts47 : partsOf Tryd.prog 47 = some (.arr 1) := by kernel_rfl
theorem sz51 : szOf Tryd.prog 51 = some 1 := by kernel_rfl
theorem by51 : byOf Tryd.prog 51 = some 8 := by kernel_rfl
theorem row51 : isRowT Tryd.prog 51 = some false := by kernel_rfl
theorem zero51 : zeroOf Tryd.prog 51 = some (.int .u64 0) := by kernel_rfl
theorem sz54 : szOf Tryd.prog 54 = some 1 := by kernel_rfl
theorem by54 : byOf Tryd.prog 54 = some 24 := by kernel_rfl
theorem row54 : isRowT Tryd.prog 54 = some false := by kernel_rfl
theorem shape54 : shapeOf Tryd.prog 54 = some (.slice 9 1) := by kernel_rfl
theorem zero54 : zeroOf Tryd.prog 54 = some (.slice none 0 0) := by kernel_rfl
theorem sz55 : szOf Tryd.prog 55 = some 1 := by kernel_rfl
theorem by55 : byOf Tryd.prog 55 = some 24 := by kernel_rfl
theorem row55 : isRowT Tryd.prog 55 = some false := by kernel_rfl
theorem shape55 : shapeOf Tryd.prog 55 = some (.slice 4 1) := by kernel_rfl
theorem zero55 : zeroOf Tryd.prog 55 = some (.slice none 0 0) := by kernel_rfl
theorem sz58 : szOf Tryd.prog 58 = some 1 := by kernel_rfl
theorem by58 : byOf Tryd.prog 58 = some 24 := by kernel_rfl
theorem row58 : isRowT Tryd.prog 58 = some false := by kernel_rfl
theorem shape58 : shapeOf Tryd.prog 58 = some (.slice 60 1) := by kernel_rfl
theorem zero58 : zeroOf Tryd.prog 58 = some (.slice none 0 0) := by kernel_rfl
theorem sz60 : szOf Tryd.prog 60 = some 1 := by kernel_rfl
theorem by60 : byOf Tryd.prog 60 = some 1 := by kernel_rfl
theorem row60 : isRowT Tryd.prog 60 = some false := by kernel_rfl
theorem zero60 : zeroOf Tryd.prog 60 = some (.int .i8 0) := by kernel_rfl
theorem sz63 : szOf Tryd.prog 63 = some 1 := by kernel_rfl
theorem by63 : byOf Tryd.prog 63 = some 24 := by kernel_rfl
theorem row63 : isRowT Tryd.prog 63 = some false := by kernel_rfl
theorem shape63 : shapeOf Tryd.prog 63 = some (.slice 23 1) := by kernel_rfl
theorem zero63 : zeroOf Tryd.prog 63 = some (.slice none 0 0) := by kernel_rfl
theorem sz73 : szOf Tryd.prog 73 = some 2 := by kernel_rfl
theorem by73 : byOf Tryd.prog 73 = some 48 := by kernel_rfl
theorem row73 : isRowT Tryd.prog 73 = some true := by kernel_rfl
theorem shape73 : shapeOf Tryd.prog 73 = some (.array 2 23 1) := by kernel_rfl
theorem zero73 : zeroOf Tryd.prog 73 = some (.agg #[.slice none 0 0,.slice none 0 0]) := by kernel_rfl
theorem parts73 : partsOf Tryd.prog 73 = some (.arr 1) := by kernel_rfl
theorem sz79 : szOf Tryd.prog 79 = some 1 := by kernel_rfl
theorem by79 : byOf Tryd.prog 79 = some 24 := by kernel_rfl
theorem row79 : isRowT Tryd.prog 79 = some false := by kernel_rfl
theorem shape79 : shapeOf Tryd.prog 79 = some (.slice 5 1) := by kernel_rfl
theorem zero79 : zeroOf Tryd.prog 79 = some (.slice none 0 0) := by kernel_rfl
theorem sz81 : szOf Tryd.prog 81 = some 4 := by kernel_rfl
theorem by81 : byOf Tryd.prog 81 = some 32 := by kernel_rfl
theorem row81 : isRowT Tryd.prog 81 = some true := by kernel_rfl
theorem shape81 : shapeOf Tryd.prog 81 = some (.array 2 47 2) := by kernel_rfl
theorem zero81 : zeroOf Tryd.prog 81 = some (.agg #[.int .i64 0,.int .i64 0,.int .i64 0,.int .i64 0]) := by kernel_rfl
theorem parts81 : partsOf Tryd.prog 81 = some (.arr 2) := by kernel_rfl
theorem sz86 : szOf Tryd.prog 86 = some 256 := by kernel_rfl
theorem by86 : byOf Tryd.prog 86 = some 256 := by kernel_rfl
theorem row86 : isRowT Tryd.prog 86 = some true := by kernel_rfl
theorem shape86 : shapeOf Tryd.prog 86 = some (.array 256 4 1) := by kernel_rfl
theorem parts86 : partsOf Tryd.prog 86 = some (.arr 1) := by kernel_rfl
theorem sz90 : szOf Tryd.prog 90 = some 1 := by kernel_rfl
theorem by90 : byOf Tryd.prog 90 = some 8 := by kernel_rfl
theorem row90 : isRowT Tryd.prog 90 = some false := by kernel_rfl
theorem zero90 : zeroOf Tryd.prog 90 = some (.pointer none) := by kernel_rfl
theorem sz92 : szOf Tryd.prog 92 = some 1 := by kernel_rfl
theorem by92 : byOf Tryd.prog 92 = some 8 := by kernel_rfl
theorem row92 : isRowT Tryd.prog 92 = some false := by kernel_rfl
theorem zero92 : zeroOf Tryd.prog 92 = some (.nilFunc) := by kernel_rfl
theorem sz96 : szOf Tryd.prog 96 = some 4 := by kernel_rfl
theorem by96 : byOf Tryd.prog 96 = some 32 := by kernel_rfl
theorem row96 : isRowT Tryd.prog 96 = some true := by kernel_rfl
theorem zero96 : zeroOf Tryd.prog 96 = some (.agg #[.int .i64 0,.int .i64 0,.int .i64 0,.int .i64 0]) := by kernel_rfl
theorem parts96 : partsOf Tryd.prog 96 = some (.rows [(0,2),(2,2)]) := by kernel_rfl
theorem field96_0 : fieldOf Tryd.prog 96 0 = some (47,0,2) := by kernel_rfl
theorem field96_1 : fieldOf Tryd.prog 96 1 = some (47,2,2) := by kernel_rfl
theorem sz99 : szOf Tryd.prog 99 = some 1 := by kernel_rfl
theorem by99 : byOf Tryd.prog 99 = some 8 := by kernel_rfl
theorem row99 : isRowT Tryd.prog 99 = some false := by kernel_rfl
theorem zero99 : zeroOf Tryd.prog 99 = some (.int .u64 0) := by kernel_rfl
theorem sz104 : szOf Tryd.prog 104 = some 1 := by kernel_rfl
theorem by104 : byOf Tryd.prog 104 = some 8 := by kernel_rfl
theorem row104 : isRowT Tryd.prog 104 = some false := by kernel_rfl
theorem zero104 : zeroOf Tryd.prog 104 = some (.pointer none) := by kernel_rfl
theorem sz106 : szOf Tryd.prog 106 = some 2 := by kernel_rfl
theorem by106 : byOf Tryd.prog 106 = some 32 := by kernel_rfl
theorem row106 : isRowT Tryd.prog 106 = some true := by kernel_rfl
theorem zero106 : zeroOf Tryd.prog 106 = some (.agg #[.pointer none,.slice none 0 0]) := by kernel_rfl
theorem parts106 : partsOf Tryd.prog 106 = some (.rows [(0,1),(1,1)]) := by kernel_rfl
theorem field106_0 : fieldOf Tryd.prog 106 0 = some (104,0,1) := by kernel_rfl
theorem field106_1 : fieldOf Tryd.prog 106 1 = some (79,1,1) := by kernel_rfl
theorem sz119 : szOf Tryd.prog 119 = some 1 := by kernel_rfl
theorem by119 : byOf Tryd.prog 119 = some 4 := by kernel_rfl
theorem row119 : isRowT Tryd.prog 119 = some false := by kernel_rfl
theorem zero119 : zeroOf Tryd.prog 119 = some (.int .u32 0) := by kernel_rfl
theorem sz123 : szOf Tryd.prog 123 = some 1 := by kernel_rfl
theorem by123 : byOf Tryd.prog 123 = some 8 := by kernel_rfl
theorem row123 : isRowT Tryd.prog 123 = some false := by kernel_rfl
theorem zero123 : zeroOf Tryd.prog 123 = some (.pointer none) := by kernel_rfl
theorem sz124 : szOf Tryd.prog 124 = some 32 := by kernel_rfl
theorem by124 : byOf Tryd.prog 124 = some 32 := by kernel_rfl
theorem row124 : isRowT Tryd.prog 124 = some true := by kernel_rfl
theorem shape124 : shapeOf Tryd.prog 124 = some (.array 32 5 1) := by kernel_rfl
theorem zero124 : zeroOf Tryd.prog 124 = some (.agg #[.int .u8 0,.int .u8 0,.int .u8 0,.int .u8 0,.int .u8 0,.int .u8 0,.int .u8 0,.int .u8 0,.int .u8 0,.int .u8 0,.int .u8 0,.int .u8 0,.int .u8 0,.int .u8 0,.int .u8 0,.int .u8 0,.int .u8 0,.int .u8 0,.int .u8 0,.int .u8 0,.int .u8 0,.int .u8 0,.int .u8 0,.int .u8 0,.int .u8 0,.int .u8 0,.int .u8 0,.int .u8 0,.int .u8 0,.int .u8 0,.int .u8 0,.int .u8 0]) := by kernel_rfl
theorem parts124 : partsOf Tryd.prog 124 = some (.arr 1) := by kernel_rfl
theorem sz125 : szOf Tryd.prog 125 = some 64 := by kernel_rfl
theorem by125 : byOf Tryd.prog 125 = some 64 := by kernel_rfl
theorem row125 : isRowT Tryd.prog 125 = some true := by kernel_rfl
theorem shape125 : shapeOf Tryd.prog 125 = some (.array 64 5 1) := by kernel_rfl
theorem zero125 : zeroOf Tryd.prog 125 = some (.agg #[.int .u8 0,.int .u8 0,.int .u8 0,.int .u8 0,.int .u8 0,.int .u8 0,.int .u8 0,.int .u8 0,.int .u8 0,.int .u8 0,.int .u8 0,.int .u8 0,.int .u8 0,.int .u8 0,.int .u8 0,.int .u8 0,.int .u8 0,.int .u8 0,.int .u8 0,.int .u8 0,.int .u8 0,.int .u8 0,.int .u8 0,.int .u8 0,.int .u8 0,.int .u8 0,.int .u8 0,.int .u8 0,.int .u8 0,.int .u8 0,.int .u8 0,.int .u8 0,.int .u8 0,.int .u8 0,.int .u8 0,.int .u8 0,.int .u8 0,.int .u8 0,.int .u8 0,.int .u8 0,.int .u8 0,.int .u8 0,.int .u8 0,.int .u8 0,.int .u8 0,.int .u8 0,.int .u8 0,.int .u8 0,.int .u8 0,.int .u8 0,.int .u8 0,.int .u8 0,.int .u8 0,.int .u8 0,.int .u8 0,.int .u8 0,.int .u8 0,.int .u8 0,.int .u8 0,.int .u8 0,.int .u8 0,.int .u8 0,.int .u8 0,.int .u8 0]) := by kernel_rfl
theorem parts125 : partsOf Tryd.prog 125 = some (.arr 1) := by kernel_rfl
theorem sz126 : szOf Tryd.prog 126 = some 256 := by kernel_rfl
theorem by126 : byOf Tryd.prog 126 = some 256 := by kernel_rfl
theorem row126 : isRowT Tryd.prog 126 = some true := by kernel_rfl
theorem shape126 : shapeOf Tryd.prog 126 = some (.array 256 5 1) := by kernel_rfl
theorem parts126 : partsOf Tryd.prog 126 = some (.arr 1) := by kernel_rfl
theorem sz128 : szOf Tryd.prog 128 = some 2 := by kernel_rfl
theorem by128 : byOf Tryd.prog 128 = some 2 := by kernel_rfl
theorem row128 : isRowT Tryd.prog 128 = some true := by kernel_rfl
theorem zero128 : zeroOf Tryd.prog 128 = some (.agg #[.int .u8 0,.int .u8 0]) := by kernel_rfl
theorem parts128 : partsOf Tryd.prog 128 = some (.rows [(0,1),(1,1)]) := by kernel_rfl
theorem field128_0 : fieldOf Tryd.prog 128 0 = some (5,0,1) := by kernel_rfl
theorem field128_1 : fieldOf Tryd.prog 128 1 = some (5,1,1) := by kernel_rfl
theorem sz129 : szOf Tryd.prog 129 = some 32 := by kernel_rfl
theorem by129 : byOf Tryd.prog 129 = some 32 := by kernel_rfl
theorem row129 : isRowT Tryd.prog 129 = some true := by kernel_rfl
theorem shape129 : shapeOf Tryd.prog 129 = some (.array 16 128 2) := by kernel_rfl
theorem zero129 : zeroOf Tryd.prog 129 = some (.agg #[.int .u8 0,.int .u8 0,.int .u8 0,.int .u8 0,.int .u8 0,.int .u8 0,.int .u8 0,.int .u8 0,.int .u8 0,.int .u8 0,.int .u8 0,.int .u8 0,.int .u8 0,.int .u8 0,.int .u8 0,.int .u8 0,.int .u8 0,.int .u8 0,.int .u8 0,.int .u8 0,.int .u8 0,.int .u8 0,.int .u8 0,.int .u8 0,.int .u8 0,.int .u8 0,.int .u8 0,.int .u8 0,.int .u8 0,.int .u8 0,.int .u8 0,.int .u8 0]) := by kernel_rfl
theorem parts129 : partsOf Tryd.prog 129 = some (.arr 2) := by kernel_rfl
theorem sz133 : szOf Tryd.prog 133 = some 1 := by kernel_rfl
theorem by133 : byOf Tryd.prog 133 = some 8 := by kernel_rfl
theorem row133 : isRowT Tryd.prog 133 = some false := by kernel_rfl
theorem zero133 : zeroOf Tryd.prog 133 = some (.pointer none) := by kernel_rfl
theorem body17 : bodyOf Tryd.prog 17 = some (Tryd.f17,(Tryd.f17.body).get rfl) := by
 unfold bodyOf
 rw [Tryd.func17]
 rfl
theorem body18 : bodyOf Tryd.prog 18 = some (Tryd.f18,(Tryd.f18.body).get rfl) := by
 unfold bodyOf
 rw [Tryd.func18]
 rfl
theorem body20 : bodyOf Tryd.prog 20 = some (Tryd.f20,(Tryd.f20.body).get rfl) := by
 unfold bodyOf
 rw [Tryd.func20]
 rfl
theorem body22 : bodyOf Tryd.prog 22 = some (Tryd.f22,(Tryd.f22.body).get rfl) := by
 unfold bodyOf
 rw [Tryd.func22]
 rfl
theorem body23 : bodyOf Tryd.prog 23 = some (Tryd.f23,(Tryd.f23.body).get rfl) := by
 unfold bodyOf
 rw [Tryd.func23]
 rfl
theorem body25 : bodyOf Tryd.prog 25 = some (Tryd.f25,(Tryd.f25.body).get rfl) := by
 unfold bodyOf
 rw [Tryd.func25]
 rfl
theorem body27 : bodyOf Tryd.prog 27 = some (Tryd.f27,(Tryd.f27.body).get rfl) := by
 unfold bodyOf
 rw [Tryd.func27]
 rfl
theorem body29 : bodyOf Tryd.prog 29 = some (Tryd.f29,(Tryd.f29.body).get rfl) := by
 unfold bodyOf
 rw [Tryd.func29]
 rfl
theorem body31 : bodyOf Tryd.prog 31 = some (Tryd.f31,(Tryd.f31.body).get rfl) := by
 unfold bodyOf
 rw [Tryd.func31]
 rfl
theorem body33 : bodyOf Tryd.prog 33 = some (Tryd.f33,(Tryd.f33.body).get rfl) := by
 unfold bodyOf
 rw [Tryd.func33]
 rfl
theorem body35 : bodyOf Tryd.prog 35 = some (Tryd.f35,(Tryd.f35.body).get rfl) := by
 unfold bodyOf
 rw [Tryd.func35]
 rfl
theorem body37 : bodyOf Tryd.prog 37 = some (Tryd.f37,(Tryd.f37.body).get rfl) := by
 unfold bodyOf
 rw [Tryd.func37]
 rfl
theorem body39 : bodyOf Tryd.prog 39 = some (Tryd.f39,(Tryd.f39.body).get rfl) := by
 unfold bodyOf
 rw [Tryd.func39]
 rfl
theorem body40 : bodyOf Tryd.prog 40 = some (Tryd.f40,(Tryd.f40.body).get rfl) := by
 unfold bodyOf
 rw [Tryd.func40]
 rfl
theorem body42 : bodyOf Tryd.prog 42 = some (Tryd.f42,(Tryd.f42.body).get rfl) := by
 unfold bodyOf
 rw [Tryd.func42]
 rfl
theorem body43 : bodyOf Tryd.prog 43 = some (Tryd.f43,(Tryd.f43.body).get rfl) := by
 unfold bodyOf
 rw [Tryd.func43]
 rfl
theorem body47 : bodyOf Tryd.prog 47 = some (Tryd.f47,(Tryd.f47.body).get rfl) := by
 unfold bodyOf
 rw [Tryd.func47]
 rfl
theorem body48 : bodyOf Tryd.prog 48 = some (Tryd.f48,(Tryd.f48.body).get rfl) := by
 unfold bodyOf
 rw [Tryd.func48]
 rfl
theorem body55 : bodyOf Tryd.prog 55 = some (Tryd.f55,(Tryd.f55.body).get rfl) := by
 unfold bodyOf
 rw [Tryd.func55]
 rfl
theorem body57 : bodyOf Tryd.prog 57 = some (Tryd.f57,(Tryd.f57.body).get rfl) := by
 unfold bodyOf
 rw [Tryd.func57]
 rfl
theorem body58 : bodyOf Tryd.prog 58 = some (Tryd.f58,(Tryd.f58.body).get rfl) := by
 unfold bodyOf
 rw [Tryd.func58]
 rfl
theorem body60 : bodyOf Tryd.prog 60 = some (Tryd.f60,(Tryd.f60.body).get rfl) := by
 unfold bodyOf
 rw [Tryd.func60]
 rfl
theorem body62 : bodyOf Tryd.prog 62 = some (Tryd.f62,(Tryd.f62.body).get rfl) := by
 unfold bodyOf
 rw [Tryd.func62]
 rfl
theorem body66 : bodyOf Tryd.prog 66 = some (Tryd.f66,(Tryd.f66.body).get rfl) := by
 unfold bodyOf
 rw [Tryd.func66]
 rfl
theorem body68 : bodyOf Tryd.prog 68 = some (Tryd.f68,(Tryd.f68.body).get rfl) := by
 unfold bodyOf
 rw [Tryd.func68]
 rfl
theorem body69 : bodyOf Tryd.prog 69 = some (Tryd.f69,(Tryd.f69.body).get rfl) := by
 unfold bodyOf
 rw [Tryd.func69]
 rfl
theorem body70 : bodyOf Tryd.prog 70 = some (Tryd.f70,(Tryd.f70.body).get rfl) := by
 unfold bodyOf
 rw [Tryd.func70]
 rfl
theorem body75 : bodyOf Tryd.prog 75 = some (Tryd.f75,(Tryd.f75.body).get rfl) := by
 unfold bodyOf
 rw [Tryd.func75]
 rfl
theorem body76 : bodyOf Tryd.prog 76 = some (Tryd.f76,(Tryd.f76.body).get rfl) := by
 unfold bodyOf
 rw [Tryd.func76]
 rfl
theorem body77 : bodyOf Tryd.prog 77 = some (Tryd.f77,(Tryd.f77.body).get rfl) := by
 unfold bodyOf
 rw [Tryd.func77]
 rfl
theorem body84 : bodyOf Tryd.prog 84 = some (Tryd.f84,(Tryd.f84.body).get rfl) := by
 unfold bodyOf
 rw [Tryd.func84]
 rfl
theorem body85 : bodyOf Tryd.prog 85 = some (Tryd.f85,(Tryd.f85.body).get rfl) := by
 unfold bodyOf
 rw [Tryd.func85]
 rfl
theorem body86 : bodyOf Tryd.prog 86 = some (Tryd.f86,(Tryd.f86.body).get rfl) := by
 unfold bodyOf
 rw [Tryd.func86]
 rfl
theorem body87 : bodyOf Tryd.prog 87 = some (Tryd.f87,(Tryd.f87.body).get rfl) := by
 unfold bodyOf
 rw [Tryd.func87]
 rfl
theorem body88 : bodyOf Tryd.prog 88 = some (Tryd.f88,(Tryd.f88.body).get rfl) := by
 unfold bodyOf
 rw [Tryd.func88]
 rfl
theorem body100 : bodyOf Tryd.prog 100 = some (Tryd.f100,(Tryd.f100.body).get rfl) := by
 unfold bodyOf
 rw [Tryd.func100]
 rfl
theorem body102 : bodyOf Tryd.prog 102 = some (Tryd.f102,(Tryd.f102.body).get rfl) := by
 unfold bodyOf
 rw [Tryd.func102]
 rfl
end Go.Proofs.YtcjephdjemapbaaDoor
set_option linter.unusedSimpArgs false
set_option linter.unusedVariables false
set_option linter.unusedSectionVars false
namespace Go.Pur
open Go.Abs
def ak : Bool → Vl
 | true => .bor
 | false => .fz
section
variable {p : Pl} {b : Bool} {c : Ck} {n : Nat} {cs : List PV}
theorem rdv_ak : rdv p (.l (ak b) c n cs) = some (.l (ak b) c n cs) := by cases b <;> rfl
theorem notOwn_ak : notOwn (ak b) = true := by cases b <;> rfl
theorem prt_ak : prt (ak b) = ak b := by cases b <;> rfl
theorem loose_ak : loose (.l (ak b) c n cs) = false := by cases b <;> rfl
theorem rdv_own : rdv p (.l .own c n cs) = some (.l (.rf p) c n cs) := rfl
theorem rdv_fz : rdv p (.l .fz c n cs) = some (.l .fz c n cs) := rfl
theorem rdv_bor : rdv p (.l .bor c n cs) = some (.l .bor c n cs) := rfl
theorem rdv_rf {q : Pl} : rdv p (.l (.rf q) c n cs) = some (.l (.rf q) c n cs) := rfl
theorem rdv_pt {q : Pl} : rdv p (.l (.pt q) c n cs) = some (.l (.pt q) c n cs) := rfl
theorem rdv_v {x : Value} : rdv p (.v x) = some (.v x) := rfl
theorem rdv_a : rdv p (.a cs) = some (.a cs) := rfl
theorem rdv_t : rdv p (.t cs) = some (.t cs) := rfl
theorem rdv_r {k : Vl} : rdv p (.r k cs) = some (.r k cs) := rfl
theorem rdv_p {i o : Nat} : rdv p (.p i o) = some (.p i o) := rfl
theorem rdv_s {i o m d : Nat} : rdv p (.s i o m d) = some (.s i o m d) := rfl
theorem rdv_f {g : FuncId} {as0 bs : List PV} : rdv p (.f g as0 bs) = some (.f g as0 bs) := rfl
end
theorem pvOf_int {k : IntKind} {n : Int} : pvOf (.int k n) = some (.v (.int k n)) := rfl
theorem pvOf_bool {b : Bool} : pvOf (.bool b) = some (.v (.bool b)) := rfl
theorem pvOf_str {s : ByteArray} : pvOf (.string s) = some (.v (.string s)) := rfl
theorem pvOf_nil : pvOf (.slice none 0 0) = some (.l .own .nz 0 []) := rfl
abbrev iv (n : Int) : PV := .v (.int .i64 n)
theorem blt_true {a b : Nat} (h : a < b) : Nat.blt a b = true := Nat.ble_eq_true_of_le h
theorem ble_true {a b : Nat} (h : a ≤ b) : Nat.ble a b = true := Nat.ble_eq_true_of_le h
theorem wrap64 {z : Int} (h1 : -9223372036854775808 ≤ z) (h2 : z < 9223372036854775808) : IntKind.i64.wrap z = z := by
 have e : IntKind.i64.wrap z = if z % 18446744073709551616 ≥ 9223372036854775808 then z % 18446744073709551616 - 18446744073709551616 else z % 18446744073709551616 := by
  unfold IntKind.wrap
  by_cases h : z % 18446744073709551616 ≥ 9223372036854775808
  ·rw [if_pos h]
   simp [IntKind.bits,IntKind.signed]
   omega
  ·rw [if_neg h]
   simp [IntKind.bits,IntKind.signed]
   omega
 rw [e]
 split <;> omega
theorem wrap_nat {n : Nat} (h : n < 1000000000000) : IntKind.i64.wrap ((n : Int) + 1) = ((n + 1 : Nat) : Int) := by
 rw [wrap64 (by omega) (by omega)]; omega
theorem intIn_nat {n i : Nat} {k : IntKind} (h : i < n) : intIn n (.int k (i : Int)) = some i := by
 show (match Nat.blt i n with | true => some i | false => none) = some i
 rw [blt_true h]
theorem goInt_eq {n : Int} : goInt n = .int .i64 n := rfl
section
variable {sz : TypeId → Option Nat} {base t : Nat} {hp : List (Option (List PV))}
theorem settle_v {x : Value} : settle sz base hp t (.v x) = some (.v x) := rfl
theorem settle_l {k : Vl} {c : Ck} {n : Nat} {cs : List PV} : settle sz base hp t (.l k c n cs) = some (.l k c n cs) := rfl
theorem settle_a {cs : List PV} : settle sz base hp t (.a cs) = some (.a cs) := rfl
theorem settle_p {b o : Nat} : settle sz base hp t (.p b o) = some (.p b o) := rfl
theorem settle_f {g : FuncId} {as0 bs : List PV} : settle sz base hp t (.f g as0 bs) = some (.f g as0 bs) := rfl
theorem noref_v {x : Value} : noref (.v x) = true := by simp [noref]
theorem noref_fz {c : Ck} {n : Nat} {cs : List PV} : noref (.l .fz c n cs) = true := by simp [noref]
theorem noref_a {cs : List PV} : noref (.a cs) = noref.norefs cs := by simp [noref]
theorem norefs_nil : noref.norefs [] = true := by simp [noref.norefs]
theorem norefs_cons {c : PV} {cs : List PV} : noref.norefs (c :: cs) = (noref c && noref.norefs cs) := by simp [noref.norefs]
end
section
variable {P : Program} {Y : Pol} {f : FuncId} {nt : Nat} {k : List Fm}
def presL (P : Program) (Y : Pol) (f : FuncId) (base : Nat) (rs : List ResultVar) (ts : List TypeId) (σ : St) : Option (PV × St × Bool) :=
 match rs,ts with
 | [r],[t] => match presOne P Y f σ r with
  | some (v,σ1) => match moved Y f v σ1 with
   | some (v',σ2) => match okDrop base v' with
    | true => match settle (elemSz P) base σ2.hp t v' with
     | some u => some (u,σ2,true)
     | none => none
    | false => some (v',σ2,false)
   | none => none
  | none => none
 | rs,ts => match Nat.beq rs.length 1 with
  | true => none
  | false => match presM P Y f rs σ with
   | some (vs,σ1) => match vs.all (okDrop base) with
    | true => match settles P base σ1.hp ts vs with
     | some us => some (.t us,σ1,true)
     | none => none
    | false => some (.t vs,σ1,false)
   | none => none
def ER (P : Program) (Y : Pol) (g : FuncId) (rs : List ResultVar) (ts : List TypeId) (base : Nat) (r : Option (AExit × St)) : Option (PV × List (Option (List PV)) × Option Nat) :=
 match r with
 | some (.normal,σ) | some (.ret,σ) => match presL P Y g base rs ts σ with
  | some (v,σ',drop) => some (pclose base drop v σ')
  | none => none
 | _ => none
theorem pres_eq {g : FuncId} {fn : Func} {base : Nat} {σ : St} : pres P Y g base fn σ = presL P Y g base fn.results.toList fn.resultTypes.toList σ := rfl
theorem E_bodyR {g : FuncId} {fn : Func} {c : Code} {a : List PV} {hp : List (Option (List PV))} (hb : bodyOf P g = some (fn,c)) (hk : (Nat.ble a.length fn.ntmps && keepsTo Y g a.length) = true) (hy : Y.yes g = false := by rfl) :
  E P Y g a hp = ER P Y g fn.results.toList fn.resultTypes.toList hp.length (EK P Y g fn.ntmps [.c c] ⟨[],pinit 0 a .nil,hp,none⟩) := by
 rw [E_body hb hk hy]
 unfold EF ER
 simp only [pres_eq]
 cases EK P Y g fn.ntmps [.c c] ⟨[],pinit 0 a .nil,hp,none⟩ with
 | none => rfl
 | some r =>
  obtain ⟨x,σ⟩ := r
  cases x with
  | normal => simp only []; cases presL P Y g hp.length fn.results.toList fn.resultTypes.toList σ <;> rfl
  | ret => simp only []; cases presL P Y g hp.length fn.results.toList fn.resultTypes.toList σ <;> rfl
  | _ => rfl
theorem E_bodyN {g : FuncId} {fn : Func} {c : Code} {a : List PV} {hp : List (Option (List PV))} (n : Nat) (hb : bodyOf P g = some (fn,c)) (h1 : Nat.ble n fn.ntmps = true) (h2 : keepsTo Y g n = true) (hn : a.length = n) (hy : Y.yes g = false := by rfl) :
  E P Y g a hp = ER P Y g fn.results.toList fn.resultTypes.toList hp.length (EK P Y g fn.ntmps [.c c] ⟨[],pinit 0 a .nil,hp,none⟩) := by
 refine E_bodyR hb ?_ hy
 rw [hn,h1,h2]
 rfl
theorem ER_ret {g : FuncId} {rs : List ResultVar} {tys : List TypeId} {base : Nat} {σ : St} : ER P Y g rs tys base (some (.ret,σ)) = match presL P Y g base rs tys σ with
  | some (v,σ',drop) => some (pclose base drop v σ')
  | none => none := rfl
theorem ER_normal {g : FuncId} {rs : List ResultVar} {tys : List TypeId} {base : Nat} {σ : St} : ER P Y g rs tys base (some (.normal,σ)) = match presL P Y g base rs tys σ with
  | some (v,σ',drop) => some (pclose base drop v σ')
  | none => none := rfl
theorem loop_ind {R : Option (PV × List (Option (List PV)) × Option Nat)} {g : FuncId} {rs : List ResultVar} {tys : List TypeId} {base : Nat} {b : Code} {σ0 : St} (Inv : Nat → St → Prop) {n0 : Nat} (h0 : Inv n0 σ0)
  (hs : ∀ n σ,Inv n σ → (∀ m σ',m < n → Inv m σ' → ER P Y g rs tys base (EK P Y f nt (.lp b :: k) σ') = R) → ER P Y g rs tys base (EK P Y f nt (.c b :: .lp b :: k) σ) = R) :
  ER P Y g rs tys base (EK P Y f nt (.lp b :: k) σ0) = R := by
 induction n0 using Nat.strongRecOn generalizing σ0 with
 | ind n ih =>
  rw [EK_lp]
  exact hs n σ0 h0 fun m σ' hm hi => ih m hm hi
end
section
variable {k : IntKind} {a b : Int}
theorem intBin_add : intBin .add k a b = some (.int k (k.wrap (a + b))) := rfl
theorem intBin_sub : intBin .sub k a b = some (.int k (k.wrap (a - b))) := rfl
theorem intBin_eql : intBin .eql k a b = some (.bool (decide (a = b))) := by simp [intBin]; rfl
theorem intBin_neq : intBin .neq k a b = some (.bool (!decide (a = b))) := by simp [intBin,bne]; rfl
theorem intBin_lss : intBin .lss k a b = some (.bool (decide (a < b))) := rfl
theorem intBin_leq : intBin .leq k a b = some (.bool (decide (a ≤ b))) := rfl
theorem intBin_gtr : intBin .gtr k a b = some (.bool (decide (b < a))) := rfl
theorem intBin_geq : intBin .geq k a b = some (.bool (decide (b ≤ a))) := rfl
end
theorem ble_lim24 {n : Nat} : Nat.ble n limit24 = decide (n ≤ 16777216) := by
 rw [Bool.eq_iff_iff]
 simp [limit24]
theorem nble {n m : Nat} : Nat.ble n m = decide (n ≤ m) := by
 rw [Bool.eq_iff_iff]
 simp
theorem nbeq {n m : Nat} : Nat.beq n m = decide (n = m) := by
 rw [Bool.eq_iff_iff]
 simp
section
variable {p : Pl}
theorem killV_v {x : Value} : killV p (.v x) = (.v x) := rfl
theorem killV_a {cs : List PV} : killV p (.a cs) = (.a cs) := rfl
theorem killV_t {cs : List PV} : killV p (.t cs) = (.t cs) := rfl
theorem killV_f {g : FuncId} {as0 bs : List PV} : killV p (.f g as0 bs) = (.f g as0 bs) := rfl
theorem killV_i {ty : TypeId} {x : PV} : killV p (.i ty x) = (.i ty x) := rfl
theorem killV_p {b o : Nat} : killV p (.p b o) = (.p b o) := rfl
theorem killV_s {b o n m : Nat} : killV p (.s b o n m) = (.s b o n m) := rfl
theorem killV_un  : killV p .un = .un := rfl
theorem killV_dead  : killV p .dead = .dead := rfl
theorem killV_lfz {c : Ck} {n : Nat} {cs : List PV} : killV p (.l .fz c n cs) = (.l .fz c n cs) := rfl
theorem killV_lbor {c : Ck} {n : Nat} {cs : List PV} : killV p (.l .bor c n cs) = (.l .bor c n cs) := rfl
theorem killV_lown {c : Ck} {n : Nat} {cs : List PV} : killV p (.l .own c n cs) = (.l .own c n cs) := rfl
theorem killV_rfz {cs : List PV} : killV p (.r .fz cs) = (.r .fz cs) := rfl
theorem killV_rbor {cs : List PV} : killV p (.r .bor cs) = (.r .bor cs) := rfl
theorem killV_lak {b : Bool} {c : Ck} {n : Nat} {cs : List PV} : killV p (.l (ak b) c n cs) = .l (ak b) c n cs := by cases b <;> rfl
theorem killV_rak {b : Bool} {cs : List PV} : killV p (.r (ak b) cs) = .r (ak b) cs := by cases b <;> rfl
theorem frzV_v {x : Value} : frzV p (.v x) = (.v x) := rfl
theorem frzV_a {cs : List PV} : frzV p (.a cs) = (.a cs) := rfl
theorem frzV_t {cs : List PV} : frzV p (.t cs) = (.t cs) := rfl
theorem frzV_f {g : FuncId} {as0 bs : List PV} : frzV p (.f g as0 bs) = (.f g as0 bs) := rfl
theorem frzV_i {ty : TypeId} {x : PV} : frzV p (.i ty x) = (.i ty x) := rfl
theorem frzV_p {b o : Nat} : frzV p (.p b o) = (.p b o) := rfl
theorem frzV_s {b o n m : Nat} : frzV p (.s b o n m) = (.s b o n m) := rfl
theorem frzV_un  : frzV p .un = .un := rfl
theorem frzV_dead  : frzV p .dead = .dead := rfl
theorem frzV_lfz {c : Ck} {n : Nat} {cs : List PV} : frzV p (.l .fz c n cs) = (.l .fz c n cs) := rfl
theorem frzV_lbor {c : Ck} {n : Nat} {cs : List PV} : frzV p (.l .bor c n cs) = (.l .bor c n cs) := rfl
theorem frzV_lown {c : Ck} {n : Nat} {cs : List PV} : frzV p (.l .own c n cs) = (.l .own c n cs) := rfl
theorem frzV_rfz {cs : List PV} : frzV p (.r .fz cs) = (.r .fz cs) := rfl
theorem frzV_rbor {cs : List PV} : frzV p (.r .bor cs) = (.r .bor cs) := rfl
theorem frzV_lak {b : Bool} {c : Ck} {n : Nat} {cs : List PV} : frzV p (.l (ak b) c n cs) = .l (ak b) c n cs := by cases b <;> rfl
theorem frzV_rak {b : Bool} {cs : List PV} : frzV p (.r (ak b) cs) = .r (ak b) cs := by cases b <;> rfl
theorem killCell_v {x : Value} : killCell (.v x) = (.v x) := rfl
theorem killCell_a {cs : List PV} : killCell (.a cs) = (.a cs) := rfl
theorem killCell_t {cs : List PV} : killCell (.t cs) = (.t cs) := rfl
theorem killCell_f {g : FuncId} {as0 bs : List PV} : killCell (.f g as0 bs) = (.f g as0 bs) := rfl
theorem killCell_i {ty : TypeId} {x : PV} : killCell (.i ty x) = (.i ty x) := rfl
theorem killCell_p {b o : Nat} : killCell (.p b o) = (.p b o) := rfl
theorem killCell_s {b o n m : Nat} : killCell (.s b o n m) = (.s b o n m) := rfl
theorem killCell_un  : killCell .un = .un := rfl
theorem killCell_dead  : killCell .dead = .dead := rfl
theorem killCell_lfz {c : Ck} {n : Nat} {cs : List PV} : killCell (.l .fz c n cs) = (.l .fz c n cs) := rfl
theorem killCell_lbor {c : Ck} {n : Nat} {cs : List PV} : killCell (.l .bor c n cs) = (.l .bor c n cs) := rfl
theorem killCell_lown {c : Ck} {n : Nat} {cs : List PV} : killCell (.l .own c n cs) = (.l .own c n cs) := rfl
theorem killCell_rfz {cs : List PV} : killCell (.r .fz cs) = (.r .fz cs) := rfl
theorem killCell_rbor {cs : List PV} : killCell (.r .bor cs) = (.r .bor cs) := rfl
theorem killCell_lak {b : Bool} {c : Ck} {n : Nat} {cs : List PV} : killCell (.l (ak b) c n cs) = .l (ak b) c n cs := by cases b <;> rfl
theorem killCell_rak {b : Bool} {cs : List PV} : killCell (.r (ak b) cs) = .r (ak b) cs := by cases b <;> rfl
theorem killV_lrf {q : Pl} {c : Ck} {n : Nat} {cs : List PV} : killV p (.l (.rf q) c n cs) = match plEq q p with
  | true => .dead
  | false => .l (.rf q) c n cs := rfl
theorem killV_lpt {q : Pl} {c : Ck} {n : Nat} {cs : List PV} : killV p (.l (.pt q) c n cs) = match plEq q p with
  | true => .dead
  | false => .l (.pt q) c n cs := rfl
theorem killV_rpt {q : Pl} {cs : List PV} : killV p (.r (.pt q) cs) = match plEq q p with
  | true => .dead
  | false => .r (.pt q) cs := rfl
theorem frzV_lrf {q : Pl} {c : Ck} {n : Nat} {cs : List PV} : frzV p (.l (.rf q) c n cs) = match plEq q p with
  | true => .l .fz c n cs
  | false => .l (.rf q) c n cs := rfl
theorem frzV_lpt {q : Pl} {c : Ck} {n : Nat} {cs : List PV} : frzV p (.l (.pt q) c n cs) = match plEq q p with
  | true => .l .fz c n cs
  | false => .l (.pt q) c n cs := rfl
theorem frzV_rpt {q : Pl} {cs : List PV} : frzV p (.r (.pt q) cs) = match plEq q p with
  | true => .r .fz cs
  | false => .r (.pt q) cs := rfl
theorem killCell_lrft {t : Nat} {c : Ck} {n : Nat} {cs : List PV} : killCell (.l (.rf (.tmp t)) c n cs) = .l (.rf (.tmp t)) c n cs := rfl
theorem killCell_lptt {t : Nat} {c : Ck} {n : Nat} {cs : List PV} : killCell (.l (.pt (.tmp t)) c n cs) = .l (.pt (.tmp t)) c n cs := rfl
theorem killCell_rptt {t : Nat} {cs : List PV} : killCell (.r (.pt (.tmp t)) cs) = .r (.pt (.tmp t)) cs := rfl
theorem killCell_lrfc {a i : Nat} {c : Ck} {n : Nat} {cs : List PV} : killCell (.l (.rf (.cell a i)) c n cs) = .dead := rfl
theorem killCell_lptc {a i : Nat} {c : Ck} {n : Nat} {cs : List PV} : killCell (.l (.pt (.cell a i)) c n cs) = .dead := rfl
theorem killCell_rptc {a i : Nat} {cs : List PV} : killCell (.r (.pt (.cell a i)) cs) = .dead := rfl
theorem argv_lak {Y : Pol} {f : FuncId} {b : Bool} {c : Ck} {n : Nat} {cs : List PV} {σ : St} : argv Y f (.l (ak b) c n cs) σ = some (.l (ak b) c n cs,σ,none) := by cases b <;> rfl
theorem argv_rak {Y : Pol} {f : FuncId} {b : Bool} {cs : List PV} {σ : St} : argv Y f (.r (ak b) cs) σ = some (.r (ak b) cs,σ,none) := by cases b <;> rfl
theorem argv_v {Y : Pol} {f : FuncId} {x : Value} {σ : St} : argv Y f (.v x) σ = some (.v x,σ,none) := rfl
theorem argv_a {Y : Pol} {f : FuncId} {cs : List PV} {σ : St} : argv Y f (.a cs) σ = some (.a cs,σ,none) := rfl
theorem argv_p {Y : Pol} {f : FuncId} {b o : Nat} {σ : St} : argv Y f (.p b o) σ = some (.p b o,σ,none) := rfl
theorem argv_f {Y : Pol} {f : FuncId} {g : FuncId} {as0 bs : List PV} {σ : St} : argv Y f (.f g as0 bs) σ = some (.f g as0 bs,σ,none) := rfl
theorem argv_fz {Y : Pol} {f : FuncId} {c : Ck} {n : Nat} {cs : List PV} {σ : St} : argv Y f (.l .fz c n cs) σ = some (.l .fz c n cs,σ,none) := rfl
theorem argv_bor {Y : Pol} {f : FuncId} {c : Ck} {n : Nat} {cs : List PV} {σ : St} : argv Y f (.l .bor c n cs) σ = some (.l .bor c n cs,σ,none) := rfl
theorem argv_rf {Y : Pol} {f : FuncId} {t : Nat} {c : Ck} {n : Nat} {cs : List PV} {σ : St} : argv Y f (.l (.rf (.tmp t)) c n cs) σ = match Y.keep f t with
  | true => some (.l .bor c n cs,σ,none)
  | false => stor Y f (.l (.rf (.tmp t)) c n cs) σ := rfl
theorem argv_pt {Y : Pol} {f : FuncId} {t : Nat} {c : Ck} {n : Nat} {cs : List PV} {σ : St} : argv Y f (.l (.pt (.tmp t)) c n cs) σ = some (.l .bor c n cs,σ,none) := rfl
theorem argv_rc {Y : Pol} {f : FuncId} {a i : Nat} {c : Ck} {n : Nat} {cs : List PV} {σ : St} : argv Y f (.l (.rf (.cell a i)) c n cs) σ = stor Y f (.l (.rf (.cell a i)) c n cs) σ := rfl
theorem argv_own {Y : Pol} {f : FuncId} {c : Ck} {n : Nat} {cs : List PV} {σ : St} : argv Y f (.l .own c n cs) σ = stor Y f (.l .own c n cs) σ := rfl
theorem mayTurn_none : mayTurn none = true := rfl
end
section
variable {p : Pl} {es : List MapEntry} {c d : Nat} {ls : List (Nat × PV)}
theorem rdv_mown : rdv p (.m .own es c) = some (.m (.rf p) es c) := rfl
theorem rdv_mfz : rdv p (.m .fz es c) = some (.m .fz es c) := rfl
theorem rdv_mbor : rdv p (.m .bor es c) = some (.m .bor es c) := rfl
theorem rdv_mrf {q : Pl} : rdv p (.m (.rf q) es c) = some (.m (.rf q) es c) := rfl
theorem killV_mown : killV p (.m .own es c) = .m .own es c := rfl
theorem killV_mfz : killV p (.m .fz es c) = .m .fz es c := rfl
theorem killV_mbor : killV p (.m .bor es c) = .m .bor es c := rfl
theorem killV_mrf {q : Pl} : killV p (.m (.rf q) es c) = match plEq q p with
  | true => .dead
  | false => .m (.rf q) es c := rfl
theorem frzV_mown : frzV p (.m .own es c) = .m .own es c := rfl
theorem frzV_mfz : frzV p (.m .fz es c) = .m .fz es c := rfl
theorem frzV_mbor : frzV p (.m .bor es c) = .m .bor es c := rfl
theorem frzV_mrf {q : Pl} : frzV p (.m (.rf q) es c) = match plEq q p with
  | true => .m .fz es c
  | false => .m (.rf q) es c := rfl
theorem killCell_mown : killCell (.m .own es c) = .m .own es c := rfl
theorem killCell_mfz : killCell (.m .fz es c) = .m .fz es c := rfl
theorem killCell_mbor : killCell (.m .bor es c) = .m .bor es c := rfl
theorem killCell_mrf {t : Nat} : killCell (.m (.rf (.tmp t)) es c) = .m (.rf (.tmp t)) es c := rfl
theorem argv_mfz {Y : Pol} {f : FuncId} {σ : St} : argv Y f (.m .fz es c) σ = some (.m .fz es c,σ,none) := rfl
theorem argv_mbor {Y : Pol} {f : FuncId} {σ : St} : argv Y f (.m .bor es c) σ = some (.m .bor es c,σ,none) := rfl
theorem argv_mrf {Y : Pol} {f : FuncId} {t : Nat} {σ : St} : argv Y f (.m (.rf (.tmp t)) es c) σ = match Y.keep f t with
  | true => some (.m .bor es c,σ,none)
  | false => stor Y f (.m (.rf (.tmp t)) es c) σ := rfl
theorem settle_m {sz : TypeId → Option Nat} {base t : Nat} {hp : List (Option (List PV))} {k : Vl} : settle sz base hp t (.m k es c) = some (.m k es c) := rfl
theorem kls_v {x : Value} : kls d (.v x) ls = ls := rfl
theorem kls_l {k : Vl} {c : Ck} {n : Nat} {cs : List PV} : kls d (.l k c n cs) ls = ls := rfl
theorem kls_a {cs : List PV} : kls d (.a cs) ls = ls := rfl
theorem kls_t {cs : List PV} : kls d (.t cs) ls = ls := rfl
theorem kls_r {k : Vl} {cs : List PV} : kls d (.r k cs) ls = ls := rfl
theorem kls_p {b o : Nat} : kls d (.p b o) ls = ls := rfl
theorem kls_s {b o n m : Nat} : kls d (.s b o n m) ls = ls := rfl
theorem kls_f {g : FuncId} {as0 bs : List PV} : kls d (.f g as0 bs) ls = ls := rfl
theorem kls_i {ty : TypeId} {x : PV} : kls d (.i ty x) ls = ls := rfl
theorem kls_it {s : ByteArray} {pos : Nat} : kls d (.it s pos) ls = ls := rfl
theorem kls_un : kls d .un ls = ls := rfl
theorem kls_dead : kls d .dead ls = ls := rfl
theorem kls_mown : kls d (.m .own es c) ls = mapL (killV (.tmp d)) ls := rfl
theorem kls_mrf {q : Pl} : kls d (.m (.rf q) es c) ls = ls := rfl
theorem kls_mbor : kls d (.m .bor es c) ls = ls := rfl
theorem kls_mfz : kls d (.m .fz es c) ls = ls := rfl
end
section
variable {b : Nat}
theorem refsTo_v {x : Value} : refsTo b (.v x) = true := by simp [refsTo]
theorem refsTo_l {k : Vl} {c : Ck} {n : Nat} {cs : List PV} : refsTo b (.l k c n cs) = true := by simp [refsTo]
theorem refsTo_p {d o : Nat} : refsTo b (.p d o) = Nat.ble d b := by simp [refsTo]
theorem refsTo_s {d o n m : Nat} : refsTo b (.s d o n m) = Nat.ble d b := by simp [refsTo]
theorem refsTo_a {cs : List PV} : refsTo b (.a cs) = refsTo.go b cs := by simp [refsTo]
theorem refsTo_dead : refsTo b .dead = true := by simp [refsTo]
theorem refsTo_nil : refsTo.go b [] = true := by simp [refsTo.go]
theorem refsTo_cons {c : PV} {cs : List PV} : refsTo.go b (c :: cs) = (refsTo b c && refsTo.go b cs) := by simp [refsTo.go]
theorem isOwn_lak {b : Bool} {c : Ck} {n : Nat} {cs : List PV} : isOwn (.l (ak b) c n cs) = false := by cases b <;> rfl
theorem ownFz_lak {b : Bool} {c : Ck} {n : Nat} {cs : List PV} : ownFz (.l (ak b) c n cs) = .l (ak b) c n cs := by cases b <;> rfl
end
theorem notOwn_fz : notOwn .fz = true := rfl
theorem notOwn_bor : notOwn .bor = true := rfl
theorem notOwn_own : notOwn .own = false := rfl
theorem notOwn_rf {p : Pl} : notOwn (.rf p) = true := rfl
theorem notOwn_pt {p : Pl} : notOwn (.pt p) = true := rfl
theorem prt_fz : prt .fz = .fz := rfl
theorem prt_bor : prt .bor = .bor := rfl
theorem prt_own : prt .own = .own := rfl
theorem prt_rf {p : Pl} : prt (.rf p) = .pt p := rfl
theorem prt_pt {p : Pl} : prt (.pt p) = .pt p := rfl
end Go.Pur
namespace Go.Pur
open Go.Abs
def andI (k : IntKind) (m n : Int) : Int := k.wrap (BitVec.ofInt k.bits m &&& BitVec.ofInt k.bits n).toNat
def orI (k : IntKind) (m n : Int) : Int := k.wrap (BitVec.ofInt k.bits m ||| BitVec.ofInt k.bits n).toNat
def andNotI (k : IntKind) (m n : Int) : Int := k.wrap (BitVec.ofInt k.bits m &&& ~~~ BitVec.ofInt k.bits n).toNat
def shrI (k : IntKind) (m n : Int) : Int := m.fdiv (2 ^ min n.toNat k.bits)
def shlI (k : IntKind) (m n : Int) : Int := k.wrap (m * 2 ^ min n.toNat k.bits)
def mulI (k : IntKind) (m n : Int) : Int := k.wrap (m * n)
section
variable {P : Program} {t : TypeId} {x y : Operand}
theorem prun_not {b : Bool} : prunP P (Op.unary .not (.bool b)) = some (.bool (!b)) := rfl
theorem prun_neg {n : Int} {k : IntKind} : prunP P (Op.unary .neg (.int k n)) = some (.int k (k.wrap (0 - n))) := rfl
theorem abinS_of {op : BinOp} {k j : IntKind} {m n : Int} {r : Value} (h0 : intFast op (.int k m) (.int j n) = none) (h1 : prun P (do eqGuard op t x y (.int k m) (.int j n); binOp op t (.int k m) (.int j n)) = some r) (h2 : plain r = true) : abin P op t x y (.int k m) (.int j n) = some r := by
 have h3 : abinS P op t x y (.int k m) (.int j n) = prunP P (do eqGuard op t x y (.int k m) (.int j n); binOp op t (.int k m) (.int j n)) := rfl
 unfold abin
 rw [h0]
 simp only []
 rw [h3]
 unfold prunP
 rw [h1]
 simp only []
 rw [h2]
theorem fast_none {op : BinOp} {k j : IntKind} {m n : Int} (h : ∀ k m n,intBin op k m n = none) : intFast op (.int k m) (.int j n) = none := by
 unfold intFast
 simp only [h]
 split <;> rfl
theorem abin_and {m n : Int} {k : IntKind} : abin P .and t x y (.int k m) (.int k n) = some (.int k (andI k m n)) := abinS_of (fast_none fun _ _ _ => rfl) (by simp [eqGuard,binOp]; rfl) rfl
theorem abin_or {m n : Int} {k : IntKind} : abin P .or t x y (.int k m) (.int k n) = some (.int k (orI k m n)) := abinS_of (fast_none fun _ _ _ => rfl) (by simp [eqGuard,binOp]; rfl) rfl
theorem abin_andNot {m n : Int} {k : IntKind} : abin P .andNot t x y (.int k m) (.int k n) = some (.int k (andNotI k m n)) := abinS_of (fast_none fun _ _ _ => rfl) (by simp [eqGuard,binOp]; rfl) rfl
theorem abin_mul {m n : Int} {k : IntKind} : abin P .mul t x y (.int k m) (.int k n) = some (.int k (mulI k m n)) := abinS_of (fast_none fun _ _ _ => rfl) (by simp [eqGuard,binOp]; rfl) rfl
theorem abin_shr {m n : Int} {k j : IntKind} (h : 0 ≤ n) : abin P .shr t x y (.int k m) (.int j n) = some (.int k (shrI k m n)) := by
 obtain ⟨n,rfl⟩ := Int.eq_ofNat_of_zero_le h
 exact abinS_of (fast_none fun _ _ _ => rfl) rfl rfl
theorem abin_shl {m n : Int} {k j : IntKind} (h : 0 ≤ n) : abin P .shl t x y (.int k m) (.int j n) = some (.int k (shlI k m n)) := by
 obtain ⟨n,rfl⟩ := Int.eq_ofNat_of_zero_le h
 exact abinS_of (fast_none fun _ _ _ => rfl) rfl rfl
theorem abin_add {m n : Int} {k : IntKind} : abin P .add t x y (.int k m) (.int k n) = some (.int k (k.wrap (m + n))) := by
 unfold abin intFast
 simp [intBin_add]
theorem abin_sub {m n : Int} {k : IntKind} : abin P .sub t x y (.int k m) (.int k n) = some (.int k (k.wrap (m - n))) := by
 unfold abin intFast
 simp [intBin_sub]
theorem abin_eql {m n : Int} {k : IntKind} : abin P .eql t x y (.int k m) (.int k n) = some (.bool (decide (m = n))) := by
 unfold abin intFast
 simp [intBin_eql]
theorem abin_neq {m n : Int} {k : IntKind} : abin P .neq t x y (.int k m) (.int k n) = some (.bool (!decide (m = n))) := by
 unfold abin intFast
 simp [intBin_neq]
theorem abin_lss {m n : Int} {k : IntKind} : abin P .lss t x y (.int k m) (.int k n) = some (.bool (decide (m < n))) := by
 unfold abin intFast
 simp [intBin_lss]
theorem abin_leq {m n : Int} {k : IntKind} : abin P .leq t x y (.int k m) (.int k n) = some (.bool (decide (m ≤ n))) := by
 unfold abin intFast
 simp [intBin_leq]
theorem abin_gtr {m n : Int} {k : IntKind} : abin P .gtr t x y (.int k m) (.int k n) = some (.bool (decide (n < m))) := by
 unfold abin intFast
 simp [intBin_gtr]
theorem abin_geq {m n : Int} {k : IntKind} : abin P .geq t x y (.int k m) (.int k n) = some (.bool (decide (n ≤ m))) := by
 unfold abin intFast
 simp [intBin_geq]
end
theorem noMaker_eq {ops : Array Oper} {q : Nat} : noMaker ops q = ops.toList.zipIdx.all fun (o,i) => decide (q ≤ i) || decide (kindOf o.op = 0) := by
 unfold noMaker
 congr 1
 funext x
 obtain ⟨o,i⟩ := x
 simp only [nble,nbeq]
section
variable {α : Type} {l r : List α} {k : Nat} {v : α}
theorem gAt : (l ++ r)[l.length + k]? = r[k]? := by rw [List.getElem?_append_right (by omega)]; congr 1; omega
theorem gAt0 : (l ++ r)[l.length]? = r[0]? := gAt (k := 0)
theorem sAt : (l ++ r).set (l.length + k) v = l ++ r.set k v := by rw [List.set_append,if_neg (by omega),Nat.add_sub_cancel_left]
theorem sAt0 : (l ++ r).set l.length v = l ++ r.set 0 v := sAt (k := 0)
end
end Go.Pur
namespace Go.Pur
open Go.Abs Go.RowKit
inductive CellIn (W : World) : Value → PV → Prop where
 | plain (x : Value) (hp : Abs.plain x = true) (hn : ∀ n c,x ≠ .slice none n c) : CellIn W x (.v x)
 | nil : CellIn W (.slice none 0 0) (.l .fz .any 0 [])
 | slice (a : Addr) (n cap : Nat) (xs : List Value) (hn : n ≤ cap) (hc : n < unkCap) (h0 : n = 0 → xs = []) (h1 : n ≠ 0 → xs ≠ []) (hx : ∀ k v,xs[k]? = some v → W.cell? (a.add k) = some v ∧ Abs.plain v = true ∧ ∀ n c,v ≠ .slice none n c) : CellIn W (.slice (some a) n cap) (.l .fz .any n (xs.map .v))
inductive CellsIn (W : World) : List Value → List PV → Prop where
 | nil : CellsIn W [] []
 | cons (v : Value) (u : PV) (vs : List Value) (us : List PV) (h : CellIn W v u) (ht : CellsIn W vs us) : CellsIn W (v :: vs) (u :: us)
inductive ArgIn (W : World) : Value → PV → Prop where
 | one (v : Value) (u : PV) (h : CellIn W v u) : ArgIn W v u
 | agg (cs : Array Value) (us : List PV) (h : CellsIn W cs.toList us) : ArgIn W (.agg cs) (.a us)
def C0 (P : Program) (n : Nat) : Ctx := ⟨P.cellsOf,fun _ => none,fun id => id < n,fun id => id < n,fun _ => none⟩
section
variable {P : Program} {W : World} {Y : Pol}
theorem cell_in {v : Value} {u : PV} (h : CellIn W v u) {G : List Blk} {GL : List Abs.Loc} (hG : G ≠ []) (hlen : G.length = GL.length) :
  ∃ (l : List Blk) (ls : List Abs.Loc) (x : Value),l.length = ls.length ∧ (∀ (i : Nat) (B : Blk) (L : Abs.Loc),l[i]? = some B → ls[i]? = some L → Lies W B L) ∧
   ∀ l2 ls2,VRel (mapOf (GL ++ ls ++ ls2)) x v ∧ ∀ π,VR (C0 P (G ++ l ++ l2).length) (heapOf (G ++ l ++ l2)) π u x := by
 cases h with
 | plain x hp hn => exact ⟨[],[],v,rfl,by simp,fun l2 ls2 => ⟨.plain _ hp,fun π => .v _ _ hp hn⟩⟩
 | nil => exact ⟨[],[],.slice none 0 0,rfl,by simp,fun l2 ls2 => ⟨.plain _ rfl,fun π => .nil _ _ _⟩⟩
 | slice a n cap xs hn hc h0 h1 hx =>
  by_cases hn0 : n = 0
  ·have := h0 hn0
   subst this; subst hn0
   have hlt : 0 < G.length := List.length_pos_iff.2 hG
   refine ⟨[],[],.slice (some ⟨0,0,none⟩) 0 roCap,rfl,by simp,fun l2 ls2 => ⟨.ro _ _ _ _ 0 hn (fun h => (h rfl).elim),fun π => ?_⟩⟩
   have hb : (heapOf (G ++ [] ++ l2)).get 0 = some G[0] := by
    rw [heapOf_get,List.append_nil,List.getElem?_append_left hlt,List.getElem?_eq_getElem hlt]
   exact .lst _ _ _ _ _ _ _ _ hb rfl (by show 0 < _; simp only [List.length_append]; omega) hc ⟨fun h => by (cases h),fun h => by (cases h),fun h => by (exact absurd h (by decide)),.inr (.inr (Nat.le_refl _)),fun h => by (cases h),by simp⟩ (by simp) (fun i hi => by (simp at hi))
  ·have hne := h1 hn0
   obtain ⟨v0,r,hvr⟩ := List.exists_cons_of_ne_nil hne
   have hc0 := (hx 0 v0 (by rw [hvr]; rfl)).1
   have hsp : a.spot = none := by
    unfold World.cell? at hc0
    split at hc0
    ·split at hc0
     ·cases hc0
     ·rename_i hs; simpa [Addr.add] using hs
    ·cases hc0
   have hadd : ∀ k,a.add k = ⟨a.block,a.off + k,none⟩ := fun k => by
    cases a with
    | mk b o s => simp only at hsp; subst hsp; exact WideShapes.add_plain b o k
   refine ⟨[⟨xs,0,false,false⟩],[⟨a.block,a.off,0⟩],.slice (some ⟨G.length,0,none⟩) n roCap,rfl, ?_,fun l2 ls2 => ⟨.ro _ _ _ _ 0 hn (fun _ => ⟨⟨a.block,a.off,0⟩, ?_,rfl, ?_,fun h => absurd rfl h⟩),fun π => ?_⟩⟩
   ·intro i B L hB hL
    cases i with
    | succ i => simp at hB
    | zero =>
     simp at hB hL
     subst hB; subst hL
     refine ⟨rfl,rfl, ?_,.inl hne,fun k v hk => ?_⟩
     ·rw [hadd] at hc0
      have := block_lt_of_cell hc0
      exact this
     ·obtain ⟨a1,a2,_⟩ := hx k v hk
      rw [hadd] at a1
      exact ⟨a1,a2⟩
   ·unfold mapOf
    rw [List.append_assoc,List.getElem?_append_right (by simp [hlen])]
    simp [hlen]
   ·cases a with
    | mk b o s => simp at hsp; subst hsp; simp
   ·have hb : (heapOf (G ++ [⟨xs,0,false,false⟩] ++ l2)).get G.length = some ⟨xs,0,false,false⟩ := by
     rw [heapOf_get,List.append_assoc,List.getElem?_append_right (Nat.le_refl _)]
     simp
    refine .lst _ _ _ _ _ _ _ _ hb rfl (by show G.length < _; simp only [List.length_append,List.length_cons]; omega) hc ⟨fun h => by (cases h),fun h => by (cases h),fun h => by (exact absurd h (by decide)),.inr (.inr (Nat.le_refl _)),fun h => by (cases h), ?_⟩ (by simp) (fun i hi => ?_)
    ·intro v hv
     obtain ⟨y,_,rfl⟩ := List.mem_map.1 hv
     rfl
    ·have hi' : i < xs.length := by simpa using hi
     have e : xs[i]? = some xs[i] := List.getElem?_eq_getElem hi'
     obtain ⟨_,p1,p2⟩ := hx i _ e
     simp [List.getD_eq_getElem?_getD,e]
     exact .v _ _ p1 p2
theorem cells_in {vs : List Value} {us : List PV} (h : CellsIn W vs us) : ∀ {G : List Blk} {GL : List Abs.Loc},G ≠ [] → G.length = GL.length →
  ∃ (l : List Blk) (ls : List Abs.Loc) (xs : List Value),l.length = ls.length ∧ (∀ (i : Nat) (B : Blk) (L : Abs.Loc),l[i]? = some B → ls[i]? = some L → Lies W B L) ∧
   ∀ l2 ls2,LRel (mapOf (GL ++ ls ++ ls2)) xs vs ∧ ∀ π,LR (C0 P (G ++ l ++ l2).length) (heapOf (G ++ l ++ l2)) π us xs := by
 induction h with
 | nil => exact fun {G GL} hG hlen => ⟨[],[],[],rfl,by simp,fun l2 ls2 => ⟨LRel.nil _,fun π => LR.nil _ _ _⟩⟩
 | cons v u vs us h ht ih =>
  intro G GL hG hlen
  obtain ⟨l,ls,x,a1,a2,a3⟩ := cell_in (P := P) h hG hlen
  obtain ⟨k,ks,xs,b1,b2,b3⟩ := ih (G := G ++ l) (GL := GL ++ ls) (by simp [hG]) (by simp [hlen,a1])
  refine ⟨l ++ k,ls ++ ks,x :: xs,by simp [a1,b1],fun i B L hB hL => ?_,fun l2 ls2 => ?_⟩
  ·by_cases hi : i < l.length
   ·rw [List.getElem?_append_left hi] at hB
    rw [List.getElem?_append_left (a1 ▸ hi)] at hL
    exact a2 i B L hB hL
   ·rw [List.getElem?_append_right (by omega)] at hB
    rw [List.getElem?_append_right (by omega),← a1] at hL
    exact b2 _ B L hB hL
  ·obtain ⟨c1,c2⟩ := a3 (k ++ l2) (ks ++ ls2)
   obtain ⟨d1,d2⟩ := b3 l2 ls2
   simp only [List.append_assoc] at c1 c2 d1 d2 ⊢
   exact ⟨LRel.cons c1 d1,fun π => LR.cons (c2 π) (d2 π)⟩
inductive ArgsIn (W : World) : List Value → List PV → Prop where
 | nil : ArgsIn W [] []
 | cons (v : Value) (u : PV) (vs : List Value) (us : List PV) (h : ArgIn W v u) (ht : ArgsIn W vs us) : ArgsIn W (v :: vs) (u :: us)
theorem arg_in {v : Value} {u : PV} (h : ArgIn W v u) {G : List Blk} {GL : List Abs.Loc} (hG : G ≠ []) (hlen : G.length = GL.length) :
  loose u = false ∧ ∃ (l : List Blk) (ls : List Abs.Loc) (x : Value),l.length = ls.length ∧ (∀ (i : Nat) (B : Blk) (L : Abs.Loc),l[i]? = some B → ls[i]? = some L → Lies W B L) ∧
   ∀ l2 ls2,VRel (mapOf (GL ++ ls ++ ls2)) x v ∧ ∀ π,VR (C0 P (G ++ l ++ l2).length) (heapOf (G ++ l ++ l2)) π u x := by
 cases h with
 | one _ _ h => exact ⟨by cases h <;> rfl,cell_in h hG hlen⟩
 | agg cs us h =>
  refine ⟨rfl, ?_⟩
  obtain ⟨l,ls,xs,a1,a2,a3⟩ := cells_in (P := P) h hG hlen
  refine ⟨l,ls,.agg xs.toArray,a1,a2,fun l2 ls2 => ?_⟩
  obtain ⟨b1,b2⟩ := a3 l2 ls2
  exact ⟨by simpa using VRel.agg_of b1,fun π => VR.agg_of (b2 none)⟩
theorem args_in {vs : List Value} {us : List PV} (h : ArgsIn W vs us) : ∀ {G : List Blk} {GL : List Abs.Loc},G ≠ [] → G.length = GL.length →
  ∃ (l : List Blk) (ls : List Abs.Loc) (xs : List Value),l.length = ls.length ∧ (∀ (i : Nat) (B : Blk) (L : Abs.Loc),l[i]? = some B → ls[i]? = some L → Lies W B L) ∧
   ∀ l2 ls2,LRel (mapOf (GL ++ ls ++ ls2)) xs vs ∧ LP1 (C0 P (G ++ l ++ l2).length) (heapOf (G ++ l ++ l2)) us xs := by
 induction h with
 | nil => exact fun {G GL} hG hlen => ⟨[],[],[],rfl,by simp,fun l2 ls2 => ⟨LRel.nil _,trivial⟩⟩
 | cons v u vs us h ht ih =>
  intro G GL hG hlen
  obtain ⟨hlo,l,ls,x,a1,a2,a3⟩ := arg_in (P := P) h hG hlen
  obtain ⟨k,ks,xs,b1,b2,b3⟩ := ih (G := G ++ l) (GL := GL ++ ls) (by simp [hG]) (by simp [hlen,a1])
  refine ⟨l ++ k,ls ++ ks,x :: xs,by simp [a1,b1],fun i B L hB hL => ?_,fun l2 ls2 => ?_⟩
  ·by_cases hi : i < l.length
   ·rw [List.getElem?_append_left hi] at hB
    rw [List.getElem?_append_left (a1 ▸ hi)] at hL
    exact a2 i B L hB hL
   ·rw [List.getElem?_append_right (by omega)] at hB
    rw [List.getElem?_append_right (by omega),← a1] at hL
    exact b2 _ B L hB hL
  ·obtain ⟨c1,c2⟩ := a3 (k ++ l2) (ks ++ ls2)
   obtain ⟨d1,d2⟩ := b3 l2 ls2
   simp only [List.append_assoc] at c1 c2 d1 d2 ⊢
   exact ⟨LRel.cons c1 d1,⟨fun d => c2 _,hlo⟩,d2⟩
end
end Go.Pur
namespace Go.Pur
open Go.Abs Go.RowKit Go.ChangeShapes Go.WideShapes
section
variable {H : Type} {enc : TypeId × Value → H} {P : Program} {W : World} {held : Bool}
theorem arg_int {t : TypeId} {k : IntKind} {v : Value} {d : DataW H} {ps : List MemPlace} {r : Reach} {b0 : Nat} (ht : P.underlying t = some (.int k)) (hv : Value.okWide P W r b0 t v)
  (h : DataW.Trod enc P W 0 (fun _ => true) held t v d ps) : ∃ z : Int,v = .int k z ∧ ArgIn W v (.v (.int k z)) ∧ (Lit.int k z).wf = true := by
 obtain ⟨z,rfl⟩ := okWide_int ht hv
 obtain ⟨fuel,h⟩ := h
 obtain ⟨z',e1,_,e3⟩ := DataW.trod_int ht h
 simp [Value.cells] at e1
 subst e1
 exact ⟨z,rfl,.one _ _ (.plain _ rfl (fun _ _ e => by cases e)),e3⟩
end
end Go.Pur
namespace Go.Proofs.YtcjephdjemapbaaDoor
def tab32 : List Int := [0,1,28,2,29,14,24,3,30,22,20,15,25,17,4,8,31,27,13,23,21,19,16,7,26,12,18,6,11,5,10,9]
def tab64 : List Int := [0,1,56,2,57,49,28,3,61,58,42,50,38,29,17,4,62,47,59,36,45,43,51,22,53,39,33,30,24,18,12,5,63,55,48,27,60,41,37,16,46,35,44,21,52,32,23,11,54,26,40,15,34,20,31,10,25,14,19,9,13,8,7,6]
end Go.Proofs.YtcjephdjemapbaaDoor
set_option linter.unusedSimpArgs false
set_option linter.unusedVariables false
set_option linter.unusedSectionVars false
namespace Go.Pur
open Go.Abs Go.RowKit
inductive KA where
 | p (v : Value)
 | l (cs : List Value)
 | m (es : List MapEntry) (c : Nat)
inductive KR where
 | p (v : Value)
 | l (cs : List Value)
 | e (ty : TypeId)
 | ll (css : List (List Value))
def paArg : PV → Option KA
 | .v x => some (.p x)
 | .l _ _ n cs => match pplains cs,Nat.beq n cs.length with
  | some vs,true => some (.l vs)
  | _,_ => none
 | .a cs => match pplains cs with
  | some vs => some (.p (.agg vs.toArray))
  | none => none
 | .m _ es c => some (.m es c)
 | _ => none
def paArgs : List PV → Option (List KA)
 | [] => some []
 | v :: l => match paArg v,paArgs l with
  | some a,some as0 => some (a :: as0)
  | _,_ => none
def aaArg (h : AHeap) : Value → Option KA
 | .slice none n c => match n,c with
  | 0,0 => some (.l [])
  | _,_ => none
 | .slice (some a) n c => match Nat.ble unkCap c || Nat.ble n c with
  | true => match n with
   | 0 => some (.l [])
   | k + 1 => match cellsAt h a (k + 1) with
    | some cs => match cs.all plain with
     | true => some (.l cs)
     | false => none
    | none => none
  | false => none
 | .map (some a) => match h.getIt a with
  | some (.mp es c) => some (.m es c)
  | _ => none
 | v => match plainV v with
  | true => some (.p v)
  | false => none
def aaArgs (h : AHeap) : List Value → Option (List KA)
 | [] => some []
 | v :: l => match aaArg h v,aaArgs h l with
  | some a,some as0 => some (a :: as0)
  | _,_ => none
def okP : Value → Bool
 | .int _ _ | .bool _ | .string _ | .nilIface => true
 | _ => false
theorem okP_plain {v : Value} (h : okP v = true) : plain v = true := by
 cases v <;> first | rfl | (cases h; done)
def okL (cs : List Value) : Bool := cs.all okP && Nat.blt cs.length unkCap
def okR : KR → Bool
 | .p v => okP v
 | .l cs => cs.all okP && Nat.blt cs.length unkCap
 | .e _ => true
 | .ll css => css.all okL && Nat.blt css.length unkCap
def pIn (cs : List Value) : PV := .l .fz .any cs.length (cs.map .v)
def aIn : List (List Value) → AHeap → List Value × AHeap
 | [],h => ([],h)
 | cs :: r,h => (.slice (some ⟨h.next,0,none⟩) cs.length roCap :: (aIn r (h.alloc ⟨cs,0,false,false⟩)).1,(aIn r (h.alloc ⟨cs,0,false,false⟩)).2)
theorem aIn_len : ∀ {css : List (List Value)} {h : AHeap},(aIn css h).1.length = css.length
 | [],_ => rfl
 | cs :: r,h => by rw [aIn,List.length_cons,List.length_cons,aIn_len]
def pRes : List KR → List PV
 | [] => []
 | .p v :: r => .v v :: pRes r
 | .l cs :: r => .l .fz .any cs.length (cs.map .v) :: pRes r
 | .e ty :: r => .i ty .dead :: pRes r
 | .ll css :: r => .l .fz .any css.length (css.map pIn) :: pRes r
def aRes : List KR → AHeap → List Value × AHeap
 | [],h => ([],h)
 | .p v :: r,h => (v :: (aRes r h).1,(aRes r h).2)
 | .l cs :: r,h => (.slice (some ⟨h.next,0,none⟩) cs.length roCap :: (aRes r (h.alloc ⟨cs,0,false,false⟩)).1,(aRes r (h.alloc ⟨cs,0,false,false⟩)).2)
 | .e ty :: r,h => (.iface ty (.pointer (some ⟨h.next,0,none⟩)) :: (aRes r (h.alloc ⟨[],0,false,false⟩)).1,(aRes r (h.alloc ⟨[],0,false,false⟩)).2)
 | .ll css :: r,h => (.slice (some ⟨(aIn css h).2.next,0,none⟩) css.length roCap :: (aRes r ((aIn css h).2.alloc ⟨(aIn css h).1,0,false,false⟩)).1,(aRes r ((aIn css h).2.alloc ⟨(aIn css h).1,0,false,false⟩)).2)
def pPack : List PV → PV
 | [v] => v
 | vs => .t vs
def libP (e0 : List KA → Option (List KR)) (args : List PV) (hp : List (Option (List PV))) : Option (PV × List (Option (List PV)) × Option Nat) :=
 match paArgs args with
 | some as0 => match e0 as0 with
  | some rs => match rs.all okR with
   | true => some (pPack (pRes rs),hp,none)
   | false => none
  | none => none
 | none => none
def libA (e0 : List KA → Option (List KR)) (args : List Value) (h : AHeap) : Option (Value × AHeap) :=
 match aaArgs h args with
 | some as0 => match e0 as0 with
  | some rs => match rs.all okR with
   | true => some (packed (aRes rs h).1,(aRes rs h).2)
   | false => none
  | none => none
 | none => none
inductive LDen (w : World) : Value → KA → Prop where
 | p (v : Value) (h : plainV v = true) : LDen w v (.p v)
 | nil : LDen w (.slice none 0 0) (.l [])
 | emp (a : Addr) (c : Nat) : LDen w (.slice (some a) 0 c) (.l [])
 | lst (b o c : Nat) (cs : List Value) (hne : cs ≠ []) (hc : cs.length ≤ c) (hb : b < w.heap.size) (hr : w.rangeAt b o cs) : LDen w (.slice (some ⟨b,o,none⟩) cs.length c) (.l cs)
 | m (b : Nat) (es : List MapEntry) (c : Nat) (hw : w.heap[b]? = some (.map es.toArray c)) : LDen w (.map (some b)) (.m es c)
inductive LDens (w : World) : List Value → List KA → Prop where
 | nil : LDens w [] []
 | cons (v : Value) (a : KA) (vs : List Value) (as0 : List KA) (h : LDen w v a) (ht : LDens w vs as0) : LDens w (v :: vs) (a :: as0)
inductive IDens (n : Nat) (w : World) : List Value → List (List Value) → Prop where
 | nil : IDens n w [] []
 | cons (b o c : Nat) (cs : List Value) (C : Array Value) (e : TypeId) (fr : Nat × Nat) (us : List Value) (css : List (List Value)) (hc : cs.length ≤ c) (hb : n ≤ b) (hw : w.heap[b]? = some (.cells C e fr)) (hs : o + cs.length ≤ C.size)
   (hx : ∀ i,i < cs.length → cs.getD i undef = C.getD (o + i) undef) (ht : IDens n w us css) : IDens n w (.slice (some ⟨b,o,none⟩) cs.length c :: us) (cs :: css)
theorem IDens.len {n : Nat} {w : World} : ∀ {us : List Value} {css : List (List Value)},IDens n w us css → us.length = css.length
 | _,_,.nil => rfl
 | _,_,.cons _ _ _ _ _ _ _ _ _ _ _ _ _ _ ht => by rw [List.length_cons,List.length_cons,ht.len]
inductive RDen (n : Nat) (w : World) : Value → KR → Prop where
 | p (v : Value) : RDen n w v (.p v)
 | l (b o c : Nat) (cs : List Value) (C : Array Value) (e : TypeId) (fr : Nat × Nat) (hc : cs.length ≤ c) (hb : n ≤ b) (hw : w.heap[b]? = some (.cells C e fr)) (hs : o + cs.length ≤ C.size) (hx : ∀ i,i < cs.length → cs.getD i undef = C.getD (o + i) undef) : RDen n w (.slice (some ⟨b,o,none⟩) cs.length c) (.l cs)
 | e (b o : Nat) (ty : TypeId) (C : Array Value) (e : TypeId) (fr : Nat × Nat) (hb : n ≤ b) (hw : w.heap[b]? = some (.cells C e fr)) (hs : o ≤ C.size) : RDen n w (.iface ty (.pointer (some ⟨b,o,none⟩))) (.e ty)
 | ll (b o c : Nat) (css : List (List Value)) (us : List Value) (C : Array Value) (e : TypeId) (fr : Nat × Nat) (hi : IDens n w us css) (hc : css.length ≤ c) (hb : n ≤ b) (hw : w.heap[b]? = some (.cells C e fr)) (hs : o + css.length ≤ C.size)
   (hx : ∀ i,i < css.length → us.getD i undef = C.getD (o + i) undef) : RDen n w (.slice (some ⟨b,o,none⟩) css.length c) (.ll css)
inductive RDens (n : Nat) (w : World) : List Value → List KR → Prop where
 | nil : RDens n w [] []
 | cons (v : Value) (a : KR) (vs : List Value) (as0 : List KR) (h : RDen n w v a) (ht : RDens n w vs as0) : RDens n w (v :: vs) (a :: as0)
section
variable {P : Program} {Y : Pol}
theorem aaArg_den {m : BMap} {h : AHeap} {w : World} (hR : Rel P m h w) {v v' : Value} {a : KA} (ha : aaArg h v = some a) (hv : VRel m v v') : LDen w v' a := by
 unfold aaArg at ha
 split at ha
 ·split at ha
  ·cases ha; rw [hv.inv_snil]; exact .nil
  ·cases ha
 ·rename_i a0 n c
  split at ha
  ·rename_i hcap
   split at ha
   ·cases ha
    obtain ⟨a',c',rfl,_⟩ := hv.inv_slice
    exact .emp _ _
   ·rename_i k
    split at ha
    ·rename_i cs hcs
     split at ha
     ·rename_i hpl
      cases ha
      obtain ⟨a',c',rfl,h1,h2,h3⟩ := hv.inv_slice
      obtain ⟨L,hm,hs,rfl,_⟩ := h1 (.inl (Nat.succ_ne_zero k))
      obtain ⟨cs',hr,hrange,hlen⟩ := cellsAt_rel hR hm hcs
      have e : cs' = cs := LRel.all_plain hr hpl
      subst e
      rw [show k.succ = cs'.length from hlen.symm]
      refine .lst _ _ _ _ (fun e => by rw [e] at hlen; cases hlen) ?_ (hR.lt _ _ hm) hrange
      rw [hlen]
      simp only [Bool.or_eq_true,Nat.ble_eq] at hcap
      by_cases hc : c < unkCap
      ·rw [h2 hc]
       exact hcap.elim (fun hh => absurd hh (Nat.not_le.2 hc)) (fun hh => hh)
      ·exact (h3 (Nat.not_lt.1 hc)).2
     ·cases ha
    ·cases ha
  ·cases ha
 ·rename_i a0
  split at ha
  ·rename_i es c hx
   cases ha
   obtain ⟨L,hm,rfl⟩ := hv.inv_map
   exact .m _ _ _ (hR.its.at_ a0 _ L hx hm).1
  ·cases ha
 ·split at ha
  ·rename_i hp
   cases ha
   rw [hv.inv_plainV hp]
   exact .p _ hp
  ·cases ha
theorem aaArgs_den {m : BMap} {h : AHeap} {w : World} (hR : Rel P m h w) : ∀ {vs vs' : List Value} {as0 : List KA},aaArgs h vs = some as0 → LRel m vs vs' → LDens w vs' as0
 | [],vs',as0,ha,hv => by
  cases ha
  rcases hv.ind with ⟨_,rfl⟩ | ⟨_,_,_,_,h1,_⟩
  ·exact .nil
  ·cases h1
 | v :: vs,vs',as0,ha,hv => by
  rcases hv.ind with ⟨h1,_⟩ | ⟨v0,u,r,us,h1,rfl,h3,h4⟩
  ·cases h1
  ·cases h1
   unfold aaArgs at ha
   split at ha
   ·rename_i a as' h5 h6
    cases ha
    exact .cons _ _ _ _ (aaArg_den hR h5 h3) (aaArgs_den hR h6 h4)
   ·cases ha
theorem rel_own {m0 : BMap} {h0 : AHeap} {w0 : World} {m : BMap} {h : AHeap} {w : World} (hR : Rel P m h w) (hS : Sim m0 h0 w0 m h w) (hnew : ∀ a L,m a = some L → m0 a = some L ∨ w0.heap.size ≤ L.b) (hro : ∀ a B L,h.get a = some B → m a = some L → w0.heap.size ≤ L.b → B.wr = false)
  (hlt : ∀ a L,m0 a = some L → L.b < w0.heap.size) (hit : ∀ a x L,h.getIt a = some x → m a = some L → L.b < w0.heap.size)
  {cs : List Value} {b o : Nat} {C : Array Value} {e : TypeId} {fr : Nat × Nat} (hb : w0.heap.size ≤ b) (hw : w.heap[b]? = some (.cells C e fr)) (hs : o + cs.length ≤ C.size) (hx : ∀ i,i < cs.length → VRel m (cs.getD i undef) (C.getD (o + i) undef)) (cap : Nat) :
  Rel P (upd m h.next ⟨b,o,cap⟩) (h.alloc ⟨cs,0,false,false⟩) w ∧ Sim m0 h0 w0 (upd m h.next ⟨b,o,cap⟩) (h.alloc ⟨cs,0,false,false⟩) w ∧
   (∀ a L,upd m h.next ⟨b,o,cap⟩ a = some L → m0 a = some L ∨ w0.heap.size ≤ L.b) ∧ (∀ a B L,(h.alloc ⟨cs,0,false,false⟩).get a = some B → upd m h.next ⟨b,o,cap⟩ a = some L → w0.heap.size ≤ L.b → B.wr = false) ∧
   (∀ a x L,(h.alloc ⟨cs,0,false,false⟩).getIt a = some x → upd m h.next ⟨b,o,cap⟩ a = some L → L.b < w0.heap.size) := by
 have hf := hR.fresh h.next (Nat.le_refl _)
 have hext := upd_ext (L := ⟨b,o,cap⟩) hf
 have hblt : b < w.heap.size := (Array.getElem?_eq_some_iff.1 hw).1
 have hcase : ∀ a K,upd m h.next ⟨b,o,cap⟩ a = some K → (a = h.next ∧ K = ⟨b,o,cap⟩) ∨ (a ≠ h.next ∧ m a = some K) := fun a K hk => by
  unfold upd at hk
  split at hk
  ·cases hk; exact .inl ⟨‹_›,rfl⟩
  ·exact .inr ⟨‹_›,hk⟩
 have hits : ItRel (upd m h.next ⟨b,o,cap⟩) (h.alloc ⟨cs,0,false,false⟩) w := hR.its.keep rfl (Nat.le_succ _) (fun a K hk hs => by
   rcases hcase a K hk with ⟨rfl,_⟩ | ⟨_,hk⟩
   ·rw [hR.its.wf _ (Nat.le_refl _)] at hs; cases hs
   ·exact hk) (fun r x hr => hr)
 refine ⟨⟨?_, ?_, ?_, ?_, ?_, ?_,hits⟩,⟨?_,hS.os,hS.output,hS.tape,hS.size, ?_, ?_,hS.low,Nat.le_trans hS.next (Nat.le_succ _), ?_, ?_, ?_, ?_, ?_⟩, ?_, ?_, ?_⟩
 ·intro a K hk
  rcases hcase a K hk with ⟨_,rfl⟩ | ⟨_,hk⟩
  ·exact hblt
  ·exact hR.lt a K hk
 ·intro a ha
  have ha' : h.next + 1 ≤ a := ha
  unfold upd
  rw [if_neg (by omega)]
  exact hR.fresh a (by omega)
 ·intro a B' K hg hk
  rw [AHeap.get_alloc] at hg
  rcases hcase a K hk with ⟨rfl,rfl⟩ | ⟨hne,hk⟩
  ·rw [if_pos rfl] at hg
   cases hg
   exact ⟨C,e,fr,hw,(fun hh => by cases hh),hs,(fun i hi => (hx i hi).mono hext),fun hh => by cases hh⟩
  ·rw [if_neg hne] at hg
   exact ((hR.blk a B' K hg hk).mono hext).same rfl
 ·intro a a' B1 B2 K1 K2 g1 g2 k1 k2 he hne
  rw [AHeap.get_alloc] at g1 g2
  rcases hcase a K1 k1 with ⟨rfl,rfl⟩ | ⟨n1,k1⟩
  ·rcases hcase a' K2 k2 with ⟨rfl,rfl⟩ | ⟨n2,k2⟩
   ·exact absurd rfl hne
   ·rw [if_pos rfl] at g1
    rw [if_neg n2] at g2
    cases g1
    exact ⟨rfl,hro a' B2 K2 g2 k2 (by rw [← he]; exact hb)⟩
  ·rcases hcase a' K2 k2 with ⟨rfl,rfl⟩ | ⟨n2,k2⟩
   ·rw [if_neg n1] at g1
    rw [if_pos rfl] at g2
    cases g2
    exact ⟨hro a B1 K1 g1 k1 (by rw [he]; exact hb),rfl⟩
   ·rw [if_neg n1] at g1
    rw [if_neg n2] at g2
    exact hR.inj a a' B1 B2 K1 K2 g1 g2 k1 k2 he hne
 ·intro g hg
  exact hext _ _ (hR.glob g hg)
 ·intro a ha
  have ha' : h.next + 1 ≤ a := ha
  rw [AHeap.get_alloc,if_neg (by omega)]
  exact hR.wf a (by omega)
 ·intro a L hL; exact hext _ _ (hS.ext a L hL)
 ·exact hS.frame
 ·intro a K hk
  rcases hcase a K hk with ⟨_,rfl⟩ | ⟨_,hk⟩
  ·exact .inr (.inl hb)
  ·exact hS.img a K hk
 ·intro a ha
  unfold upd
  rw [if_neg (by have := hS.next; omega)]
  exact hS.newm a ha
 ·intro a ha hl
  rw [AHeap.get_alloc,if_neg (by have := hS.next; omega)]
  exact hS.old a ha hl
 ·intro a ha hd
  rw [AHeap.get_alloc,if_neg (by have := hS.next; omega)]; exact hS.dead a ha hd
 ·intro a B' ha hg
  rw [AHeap.get_alloc,if_neg (by have := hS.next; omega)] at hg
  exact hS.wrs a B' ha hg
 ·exact hS.itd
 ·intro a L hL
  rcases hcase a L hL with ⟨_,rfl⟩ | ⟨_,hL⟩
  ·exact .inr hb
  ·exact hnew a L hL
 ·intro a B L hg hL hn
  rw [AHeap.get_alloc] at hg
  rcases hcase a L hL with ⟨rfl,rfl⟩ | ⟨hne,hL⟩
  ·rw [if_pos rfl] at hg; cases hg; rfl
  ·rw [if_neg hne] at hg
   exact hro a B L hg hL hn
 ·intro a x L hg hL
  have hg' : h.getIt a = some x := hg
  rcases hcase a L hL with ⟨rfl,_⟩ | ⟨_,hL⟩
  ·rw [hR.its.wf _ (Nat.le_refl _)] at hg'; cases hg'
  ·exact hit a x L hg' hL
theorem plain_getD {cs : List Value} (h : cs.all okP = true) {m : BMap} {i : Nat} (hi : i < cs.length) : VRel m (cs.getD i undef) (cs.getD i undef) := by
 rw [List.getD_eq_getElem?_getD,List.getElem?_eq_getElem hi]
 exact .plain _ (okP_plain (List.all_eq_true.1 h _ (List.getElem_mem hi)))
theorem aIn_rel {m0 : BMap} {h0 : AHeap} {w0 : World} {w : World} (hlt : ∀ a L,m0 a = some L → L.b < w0.heap.size) : ∀ {css : List (List Value)} {us : List Value} {m : BMap} {h : AHeap},Rel P m h w → Sim m0 h0 w0 m h w → (∀ a L,m a = some L → m0 a = some L ∨ w0.heap.size ≤ L.b) →
  (∀ a B L,h.get a = some B → m a = some L → w0.heap.size ≤ L.b → B.wr = false) → (∀ a x L,h.getIt a = some x → m a = some L → L.b < w0.heap.size) → css.all okL = true → IDens w0.heap.size w us css →
  ∃ m',(∀ a L,m a = some L → m' a = some L) ∧ LRel m' (aIn css h).1 us ∧ Rel P m' (aIn css h).2 w ∧ Sim m0 h0 w0 m' (aIn css h).2 w ∧ (∀ a L,m' a = some L → m0 a = some L ∨ w0.heap.size ≤ L.b) ∧
   (∀ a B L,(aIn css h).2.get a = some B → m' a = some L → w0.heap.size ≤ L.b → B.wr = false) ∧ (∀ a x L,(aIn css h).2.getIt a = some x → m' a = some L → L.b < w0.heap.size)
 | [],us,m,h,hR,hS,h1,h2,h3,_,hd => by cases hd; exact ⟨m,fun _ _ h => h,LRel.nil _,hR,hS,h1,h2,h3⟩
 | cs :: css,us,m,h,hR,hS,hnew,hro,hit,hok,hd => by
  cases hd with
  | cons b o c _ C e fr us' _ hc hb hw hs hx ht =>
  simp only [List.all_cons,Bool.and_eq_true] at hok
  have hok1 : cs.all okP = true := by have := hok.1; simp only [okL,Bool.and_eq_true] at this; exact this.1
  obtain ⟨r1,r2,r3,r4,r5⟩ := rel_own hR hS hnew hro hlt hit (cs := cs) (o := o) hb hw hs (fun i hi => by rw [← hx i hi]; exact plain_getD hok1 hi) 0
  obtain ⟨m',e1,e2,e3,e4,e5⟩ := aIn_rel hlt r1 r2 r3 r4 r5 hok.2 ht
  refine ⟨m',fun a L hL => e1 a L (upd_ext (hR.fresh _ (Nat.le_refl _)) a L hL),LRel.cons ?_ e2,e3,e4,e5⟩
  exact .ro _ _ _ _ 0 hc (fun _ => ⟨⟨b,o,0⟩,e1 _ _ (by unfold upd; rw [if_pos rfl]),rfl,rfl,fun hh => absurd rfl hh⟩)
theorem aRes_rel {m0 : BMap} {h0 : AHeap} {w0 : World} {w : World} (hlt : ∀ a L,m0 a = some L → L.b < w0.heap.size) : ∀ {rs : List KR} {vs : List Value} {m : BMap} {h : AHeap},Rel P m h w → Sim m0 h0 w0 m h w → (∀ a L,m a = some L → m0 a = some L ∨ w0.heap.size ≤ L.b) →
  (∀ a B L,h.get a = some B → m a = some L → w0.heap.size ≤ L.b → B.wr = false) → (∀ a x L,h.getIt a = some x → m a = some L → L.b < w0.heap.size) → rs.all okR = true → RDens w0.heap.size w vs rs →
  ∃ m',(∀ a L,m a = some L → m' a = some L) ∧ LRel m' (aRes rs h).1 vs ∧ Rel P m' (aRes rs h).2 w ∧ Sim m0 h0 w0 m' (aRes rs h).2 w
 | [],vs,m,h,hR,hS,_,_,_,_,hd => by cases hd; exact ⟨m,fun _ _ h => h,LRel.nil _,hR,hS⟩
 | r :: rs,vs,m,h,hR,hS,hnew,hro,hit,hok,hd => by
  cases hd with
  | cons v _ vs' _ hv ht =>
  simp only [List.all_cons,Bool.and_eq_true] at hok
  cases hv with
  | p x =>
   obtain ⟨m',e1,e2,e3,e4⟩ := aRes_rel hlt hR hS hnew hro hit hok.2 ht
   exact ⟨m',e1,LRel.cons (.plain _ (okP_plain hok.1)) e2,e3,e4⟩
  | l b o c cs C e fr hc hb hw hs hx =>
   have hok1 : cs.all okP = true := by have := hok.1; simp only [okR,Bool.and_eq_true] at this; exact this.1
   obtain ⟨r1,r2,r3,r4,r5⟩ := rel_own hR hS hnew hro hlt hit (cs := cs) (o := o) hb hw hs (fun i hi => by rw [← hx i hi]; exact plain_getD hok1 hi) 0
   obtain ⟨m',e1,e2,e3,e4⟩ := aRes_rel hlt r1 r2 r3 r4 r5 hok.2 ht
   refine ⟨m',fun a L hL => e1 a L (upd_ext (hR.fresh _ (Nat.le_refl _)) a L hL),LRel.cons ?_ e2,e3,e4⟩
   exact .ro _ _ _ _ 0 hc (fun _ => ⟨⟨b,o,0⟩,e1 _ _ (by unfold upd; rw [if_pos rfl]),rfl,rfl,fun hh => absurd rfl hh⟩)
  | e b o ty C e fr hb hw hs =>
   obtain ⟨r1,r2,r3,r4,r5⟩ := rel_own hR hS hnew hro hlt hit (cs := []) (o := o) hb hw hs (fun i hi => absurd hi (Nat.not_lt_zero _)) 0
   obtain ⟨m',e1,e2,e3,e4⟩ := aRes_rel hlt r1 r2 r3 r4 r5 hok.2 ht
   refine ⟨m',fun a L hL => e1 a L (upd_ext (hR.fresh _ (Nat.le_refl _)) a L hL),LRel.cons (.iface _ _ _ ?_) e2,e3,e4⟩
   exact .ptr ⟨h.next,0,none⟩ ⟨b,o,0⟩ (e1 _ _ (by unfold upd; rw [if_pos rfl])) rfl
  | ll b o c css us C e fr hi hc hb hw hs hx =>
   have hok1 : css.all okL = true := by have := hok.1; simp only [okR,Bool.and_eq_true] at this; exact this.1
   obtain ⟨m1,f1,f2,f3,f4,f5,f6,f7⟩ := aIn_rel hlt hR hS hnew hro hit hok1 hi
   obtain ⟨r1,r2,r3,r4,r5⟩ := rel_own f3 f4 f5 f6 hlt f7 (cs := (aIn css h).1) (o := o) hb hw (by rw [aIn_len]; exact hs) (fun i hi => by rw [← hx i (by rw [aIn_len] at hi; exact hi)]; exact f2.2 i hi) 0
   obtain ⟨m',e1,e2,e3,e4⟩ := aRes_rel hlt r1 r2 r3 r4 r5 hok.2 ht
   refine ⟨m',fun a L hL => e1 a L (upd_ext (f3.fresh _ (Nat.le_refl _)) a L (f1 a L hL)),LRel.cons ?_ e2,e3,e4⟩
   exact .ro _ _ _ _ 0 hc (fun _ => ⟨⟨b,o,0⟩,e1 _ _ (by unfold upd; rw [if_pos rfl]),rfl,rfl,fun hh => absurd rfl hh⟩)
theorem packed_ext {m : BMap} {l l' : List Value} (h : LRel m l l') : VRel m (packed l) (packed l') := by
 rcases h.ind with ⟨rfl,rfl⟩ | ⟨v,v',r,r',rfl,rfl,h1,h2⟩
 ·exact .tuple _ _ rfl (fun i hi => absurd hi (Nat.not_lt_zero _))
 ·rcases h2.ind with ⟨rfl,rfl⟩ | ⟨_,_,_,_,rfl,rfl,_,_⟩
  ·exact h1
  ·exact VRel.tuple_of h
theorem pplains_lr {C : Ctx} {h : AHeap} {π : Option Pl} : ∀ {us : List PV} {vs xs : List Value},pplains us = some vs → LR C h π us xs → vs = xs ∧ ∀ v ∈ vs,plain v = true
 | [],vs,xs,hq,hl => by
  cases hq
  rcases hl.ind with ⟨_,rfl⟩ | ⟨_,_,_,_,h1,_⟩
  ·exact ⟨rfl,fun _ h => by cases h⟩
  ·cases h1
 | u :: us,vs,xs,hq,hl => by
  rcases hl.ind with ⟨h1,_⟩ | ⟨u0,x,r,ys,h1,rfl,h3,h4⟩
  ·cases h1
  ·cases h1
   unfold pplains at hq
   split at hq
   ·rename_i hh; cases hh
   ·rename_i x0 l hh
    cases hh
    split at hq
    ·rename_i r hr
     cases hq
     obtain ⟨e,hp⟩ := pplains_lr hr h4
     obtain ⟨e1,e2,_⟩ := h3.inv_v
     subst e1; subst e
     exact ⟨rfl,fun v hv => by
      rcases List.mem_cons.1 hv with rfl | hv
      ·exact e2
      ·exact hp v hv⟩
    ·cases hq
   ·cases hq
theorem paArg_vr {C : Ctx} {h : AHeap} {π : Option Pl} {u : PV} {x : Value} {a : KA} (ha : paArg u = some a) (hv : VR C h π u x) : aaArg h x = some a := by
 unfold paArg at ha
 split at ha
 ·cases ha
  obtain ⟨rfl,h2,h3⟩ := hv.inv_v
  unfold aaArg
  split
  ·rename_i n c; exact absurd rfl (h3 n c)
  ·rename_i a n c; cases h2
  ·rename_i a; cases h2
  ·rename_i h4 h5 h6
   have : plainV x = true := by
    cases x <;> first | exact h2 | (cases h2; done)
   rw [this]
 ·rename_i k c n cs
  split at ha
  ·rename_i vs hvs hn
   cases ha
   have hn := Nat.eq_of_beq_eq_true hn
   rcases hv.inv_l with ⟨rfl,rfl,rfl⟩ | ⟨ad,cap,B,rfl,hb,hs,hk,hlt,hc,hl,hcs⟩
   ·cases hvs; rfl
   ·have hl' := hcs
    obtain ⟨e,hp⟩ := pplains_lr hvs hl'
    unfold aaArg
    have hcap : (Nat.ble unkCap cap || Nat.ble n cap) = true := by
     by_cases hh : cap < unkCap
     ·have := hc.le hh
      simp [Nat.ble_eq,this]
     ·have := Nat.not_lt.1 hh
      simp [Nat.ble_eq,this]
    simp only [hcap]
    cases n with
    | zero =>
     have : cs = [] := List.length_eq_zero_iff.1 hn.symm
     subst this
     cases hvs; rfl
    | succ k =>
     have hcell : cellsAt h ad (k + 1) = some vs := by
      unfold cellsAt
      rw [hb]
      simp only []
      rw [e,hn]
      exact takeN_of (by simp; omega)
     simp only [hcell]
     rw [List.all_eq_true.2 hp]
  ·cases ha
 ·rename_i cs
  split at ha
  ·rename_i vs hvs
   cases ha
   obtain ⟨l,rfl,hl⟩ := hv.inv_a
   obtain ⟨e,hp⟩ := pplains_lr hvs hl
   subst e
   show (match plainV (.agg l) with | true => some (KA.p (.agg l)) | false => none) = _
   have : plainV (.agg l) = true := List.all_eq_true.2 hp
   rw [this]
  ·cases ha
 ·rename_i k es c
  cases ha
  cases hv with
  | m _ _ _ _ id hk hi =>
   unfold aaArg
   simp only [hi]
 ·cases ha
where takeN_of : ∀ {n : Nat} {l : List Value}, n ≤ l.length → takeN n l = some (l.take n)
 | 0,_,_ => by simp [takeN]
 | n + 1,[],h => by simp at h
 | n + 1,x :: l,h => by
  unfold takeN
  rw [takeN_of (by simpa using h)]
  rfl
theorem paArg_aa {C : Ctx} {h : AHeap} {u : PV} {x : Value} {a : KA} (ha : paArg u = some a) (hv : VA C h u x) : aaArg h x = some a := paArg_vr ha (hv 0)
theorem paArgs_aa {C : Ctx} {h : AHeap} : ∀ {us : List PV} {xs : List Value} {as0 : List KA},paArgs us = some as0 → LP1 C h us xs → aaArgs h xs = some as0
 | [],[],as0,ha,_ => ha
 | [],_ :: _,_,_,hl => hl.elim
 | _ :: _,[],_,_,hl => hl.elim
 | u :: us,x :: xs,as0,ha,hl => by
  unfold paArgs at ha
  split at ha
  ·rename_i a as' h1 h2
   cases ha
   unfold aaArgs
   rw [paArg_aa h1 hl.1.1,paArgs_aa h2 hl.2]
  ·cases ha
theorem pRes_firm : ∀ {rs : List KR},(pRes rs).all firm = true
 | [] => rfl
 | .p v :: r => by simp only [pRes,List.all_cons,pRes_firm (rs := r),Bool.and_true]; rfl
 | .l cs :: r => by simp only [pRes,List.all_cons,pRes_firm (rs := r),Bool.and_true]; rfl
 | .e ty :: r => by simp only [pRes,List.all_cons,pRes_firm (rs := r),Bool.and_true]; rfl
 | .ll css :: r => by simp only [pRes,List.all_cons,pRes_firm (rs := r),Bool.and_true]; rfl
theorem look_none {f : FuncId} {hp : List (Option (List PV))} {t : Nat} : look Y f ⟨[],.nil,hp,none⟩ t = none := by
 unfold look
 split <;> rfl
theorem Old.trans {C C1 C2 : Ctx} {h h1 h2 : AHeap} (o1 : Old C C1 h h1) (o2 : Old C1 C2 h1 h2) : Old C C2 h h2 :=
 ⟨o2.sz.trans o1.sz,fun b id hb => o2.β _ _ (o1.β _ _ hb),fun id hid => o2.fz _ (o1.fz _ hid),fun id hid => o2.fx _ (o1.fx _ hid),fun id p hid => o2.ow _ _ (o1.ow _ _ hid),
  fun id hid => (o2.get id (hid.elim (fun hh => .inl (o1.fx _ hh)) (fun ⟨p,hh⟩ => .inr ⟨p,o1.ow _ _ hh⟩))).trans (o1.get id hid),fun id hid => (o2.git id (hid.elim (fun hh => .inl (o1.fx _ hh)) (fun ⟨p,hh⟩ => .inr ⟨p,o1.ow _ _ hh⟩))).trans (o1.git id hid)⟩
theorem new_list {C1 : Ctx} {h1 : AHeap} {cs : List Value} {id : Nat} (hok : okL cs = true) (hz : C1.fz id) (hg : h1.get id = some ⟨cs,0,false,false⟩) : VR C1 h1 none (pIn cs) (.slice (some ⟨id,0,none⟩) cs.length roCap) := by
 have hok1 : cs.all okP = true ∧ cs.length < unkCap := by
  simp only [okL,Bool.and_eq_true,Nat.blt_eq] at hok
  exact hok
 refine .lst _ _ _ _ _ _ _ _ hg rfl hz hok1.2 ⟨fun e => by (cases e),fun e => by (cases e),fun e => absurd e (by decide),.inr (.inr (Nat.le_refl _)),fun e => by (cases e), ?_⟩ (by simp) (fun i hi => ?_)
 ·intro v hv
  obtain ⟨y,_,rfl⟩ := List.mem_map.1 hv
  rfl
 ·have hi' : i < cs.length := by simpa using hi
  have e : cs[i]? = some cs[i] := List.getElem?_eq_getElem hi'
  have hp := List.all_eq_true.1 hok1.1 _ (List.getElem_mem hi')
  simp [List.getD_eq_getElem?_getD,e]
  exact .v _ _ (okP_plain hp) (fun n c e => by rw [e] at hp; cases hp)
theorem in_sim {f : FuncId} {hp : List (Option (List PV))} : ∀ {css : List (List Value)} {C : Ctx} {h : AHeap},css.all okL = true → ST P Y f C h ⟨[],.nil,hp,none⟩ .nil →
  ∃ C',ST P Y f C' (aIn css h).2 ⟨[],.nil,hp,none⟩ .nil ∧ Step (Y.keep f) (h.next ≤ ·) C h ⟨[],.nil,hp,none⟩ C' (aIn css h).2 ⟨[],.nil,hp,none⟩ ∧ Old C C' h (aIn css h).2 ∧ C'.β = C.β ∧ C'.ow = C.ow ∧ LR C' (aIn css h).2 none (css.map pIn) (aIn css h).1 ∧ h.next ≤ (aIn css h).2.next
 | [],C,h,_,st => ⟨C,st,.refl _ _ _ _ _,⟨rfl,fun _ _ h => h,fun _ h => h,fun _ h => h,fun _ _ h => h,fun _ _ => rfl,fun _ _ => rfl⟩,rfl,rfl,LR.nil _ _ _,Nat.le_refl _⟩
 | cs :: css,C,h,hok,st => by
  simp only [List.all_cons,Bool.and_eq_true] at hok
  have hf : ¬ Ids C h.next := fun hid => absurd (hid.lt st.hi) (Nat.lt_irrefl _)
  have nh : NewH h h.next ⟨cs,0,false,false⟩ (h.alloc ⟨cs,0,false,false⟩) := ⟨fun k => AHeap.get_alloc _ _ _,Nat.le_succ _,Nat.lt_succ_self _,rfl,rfl⟩
  obtain ⟨s1,t1,o1⟩ := newFz_sim st hf nh
  obtain ⟨C',s2,t2,o2,b2,w2,l2,n2⟩ := in_sim hok.2 s1
  have hfz : (withFz C h.next).fz h.next := .inr rfl
  refine ⟨C',s2,t1.trans t2 (fun _ e => Nat.le_of_eq e.symm) (fun _ e => Nat.le_trans (Nat.le_succ _) e),o1.trans o2,b2,w2,LR.cons ?_ l2,Nat.le_trans (Nat.le_succ _) n2⟩
  exact new_list hok.1 (o2.fz _ hfz) ((o2.get _ (.inl (.inr rfl))).trans (by rw [AHeap.get_alloc,if_pos rfl]))
theorem res_sim {f : FuncId} {hp : List (Option (List PV))} : ∀ {rs : List KR} {C : Ctx} {h : AHeap},rs.all okR = true → ST P Y f C h ⟨[],.nil,hp,none⟩ .nil →
  ∃ C',ST P Y f C' (aRes rs h).2 ⟨[],.nil,hp,none⟩ .nil ∧ Step (Y.keep f) (h.next ≤ ·) C h ⟨[],.nil,hp,none⟩ C' (aRes rs h).2 ⟨[],.nil,hp,none⟩ ∧ Old C C' h (aRes rs h).2 ∧ C'.β = C.β ∧ C'.ow = C.ow ∧ LR C' (aRes rs h).2 none (pRes rs) (aRes rs h).1
 | [],C,h,_,st => ⟨C,st,.refl _ _ _ _ _,⟨rfl,fun _ _ h => h,fun _ h => h,fun _ h => h,fun _ _ h => h,fun _ _ => rfl,fun _ _ => rfl⟩,rfl,rfl,LR.nil _ _ _⟩
 | r :: rs,C,h,hok,st => by
  simp only [List.all_cons,Bool.and_eq_true] at hok
  have step : ∀ (cs : List Value) (u : PV) (x : Value),(∀ C1 : Ctx,∀ h1 : AHeap,C1.fz h.next → h1.get h.next = some ⟨cs,0,false,false⟩ → VR C1 h1 none u x) → ∃ C',ST P Y f C' (aRes rs (h.alloc ⟨cs,0,false,false⟩)).2 ⟨[],.nil,hp,none⟩ .nil ∧
    Step (Y.keep f) (h.next ≤ ·) C h ⟨[],.nil,hp,none⟩ C' (aRes rs (h.alloc ⟨cs,0,false,false⟩)).2 ⟨[],.nil,hp,none⟩ ∧ Old C C' h (aRes rs (h.alloc ⟨cs,0,false,false⟩)).2 ∧ C'.β = C.β ∧ C'.ow = C.ow ∧
    LR C' (aRes rs (h.alloc ⟨cs,0,false,false⟩)).2 none (u :: pRes rs) (x :: (aRes rs (h.alloc ⟨cs,0,false,false⟩)).1) := by
   intro cs u x hu
   have hf : ¬ Ids C h.next := fun hid => absurd (hid.lt st.hi) (Nat.lt_irrefl _)
   have nh : NewH h h.next ⟨cs,0,false,false⟩ (h.alloc ⟨cs,0,false,false⟩) := ⟨fun k => AHeap.get_alloc _ _ _,Nat.le_succ _,Nat.lt_succ_self _,rfl,rfl⟩
   obtain ⟨s1,t1,o1⟩ := newFz_sim st hf nh
   obtain ⟨C',s2,t2,o2,b2,w2,l2⟩ := res_sim hok.2 s1
   have hfz : (withFz C h.next).fz h.next := .inr rfl
   refine ⟨C',s2,t1.trans t2 (fun _ e => Nat.le_of_eq e.symm) (fun _ e => Nat.le_trans (Nat.le_succ _) e), ?_,b2,w2,LR.cons ?_ l2⟩
   ·exact ⟨o2.sz.trans o1.sz,fun b id hb => o2.β _ _ (o1.β _ _ hb),fun id hid => o2.fz _ (o1.fz _ hid),fun id hid => o2.fx _ (o1.fx _ hid),fun id p hid => o2.ow _ _ (o1.ow _ _ hid),
     fun id hid => (o2.get id (hid.elim (fun hh => .inl (o1.fx _ hh)) (fun ⟨p,hh⟩ => .inr ⟨p,o1.ow _ _ hh⟩))).trans (o1.get id hid),fun id hid => (o2.git id (hid.elim (fun hh => .inl (o1.fx _ hh)) (fun ⟨p,hh⟩ => .inr ⟨p,o1.ow _ _ hh⟩))).trans (o1.git id hid)⟩
   ·exact hu C' _ (o2.fz _ hfz) ((o2.get _ (.inl (.inr rfl))).trans (by rw [AHeap.get_alloc,if_pos rfl]))
  cases r with
  | p v =>
   obtain ⟨C',s2,t2,o2,b2,w2,l2⟩ := res_sim hok.2 st
   exact ⟨C',s2,t2,o2,b2,w2,LR.cons (.v _ _ (okP_plain hok.1) (fun n c e => by rw [e] at hok; exact absurd hok.1 (by simp [okR,okP]))) l2⟩
  | l cs =>
   have hok1 : cs.all okP = true ∧ cs.length < unkCap := by
    have := hok.1
    simp only [okR,Bool.and_eq_true,Nat.blt_eq] at this
    exact this
   refine step cs _ _ (fun C1 h1 hz hg => ?_)
   refine .lst _ _ _ _ _ _ _ _ hg rfl hz hok1.2 ⟨fun e => by (cases e),fun e => by (cases e),fun e => absurd e (by decide),.inr (.inr (Nat.le_refl _)),fun e => by (cases e), ?_⟩ (by simp) (fun i hi => ?_)
   ·intro v hv
    obtain ⟨y,_,rfl⟩ := List.mem_map.1 hv
    rfl
   ·have hi' : i < cs.length := by simpa using hi
    have e : cs[i]? = some cs[i] := List.getElem?_eq_getElem hi'
    have hp := List.all_eq_true.1 hok1.1 _ (List.getElem_mem hi')
    simp [List.getD_eq_getElem?_getD,e]
    exact .v _ _ (okP_plain hp) (fun n c e => by rw [e] at hp; cases hp)
  | e ty =>
   exact step [] _ _ (fun C1 h1 hz hg => .i _ _ _ _ (.dead _ _))
  | ll css =>
   have hok1 : css.all okL = true ∧ css.length < unkCap := by
    have := hok.1
    simp only [okR,Bool.and_eq_true,Nat.blt_eq] at this
    exact this
   obtain ⟨C1,s1,t1,o1,b1,w1,l1,n1⟩ := in_sim (f := f) (hp := hp) hok1.1 st
   have hf : ¬ Ids C1 (aIn css h).2.next := fun hid => absurd (hid.lt s1.hi) (Nat.lt_irrefl _)
   have nh : NewH (aIn css h).2 (aIn css h).2.next ⟨(aIn css h).1,0,false,false⟩ ((aIn css h).2.alloc ⟨(aIn css h).1,0,false,false⟩) := ⟨fun k => AHeap.get_alloc _ _ _,Nat.le_succ _,Nat.lt_succ_self _,rfl,rfl⟩
   obtain ⟨s2,t2,o2⟩ := newFz_sim s1 hf nh
   obtain ⟨C',s3,t3,o3,b3,w3,l3⟩ := res_sim hok.2 s2
   refine ⟨C',s3,t1.trans (t2.trans t3 (N := fun id => h.next ≤ id) (fun _ e => by rw [e]; exact n1) (fun _ e => Nat.le_trans n1 (Nat.le_trans (Nat.le_succ _) e))) (fun _ e => e) (fun _ e => e),o1.trans (o2.trans o3),b3.trans b1,w3.trans w1,LR.cons ?_ l3⟩
   have hz : C'.fz (aIn css h).2.next := o3.fz _ (.inr rfl)
   have hg : (aRes rs ((aIn css h).2.alloc ⟨(aIn css h).1,0,false,false⟩)).2.get (aIn css h).2.next = some ⟨(aIn css h).1,0,false,false⟩ := (o3.get _ (.inl (.inr rfl))).trans (by rw [AHeap.get_alloc,if_pos rfl])
   refine .lst _ _ _ _ _ _ _ _ hg rfl hz hok1.2 ⟨fun e => by (cases e),fun e => by (cases e),fun e => absurd e (by decide),.inr (.inr (Nat.le_refl _)),fun e => by (cases e), ?_⟩ (by simp [aIn_len]) (fun i hi => ?_)
   ·intro v hv
    obtain ⟨y,_,rfl⟩ := List.mem_map.1 hv
    rfl
   ·have hv := (l1.2 i hi).old (o := o2.trans o3) s1.hi.fzx
    simp only [Nat.zero_add]
    exact hv
theorem firm_any {C : Ctx} {h : AHeap} {d : Nat} (hsub : ∀ id,C.fz id → C.fx id) {u : PV} {x : Value} (hf : firm u = true) (h1 : VR C h none u x) : VR C h (some (.tmp d)) u x := by
 refine VR.step (C := C) (C' := C) (h := h) (h' := h) rfl (fun _ _ h => h) (fun _ h => h) (fun _ h => h) hsub (fun _ _ => rfl) (π := none) (π' := some (.tmp d)) (fun t e => by cases e) h1 ?_
 cases u with
 | l k c n cs => cases k <;> first | trivial | cases hf
 | r k cs => cases k <;> first | trivial | cases hf
 | m k es c => cases k <;> first | trivial | cases hf
 | it s pos => cases hf
 | _ => trivial
theorem pPack_vr {C : Ctx} {h : AHeap} {d : Nat} {us : List PV} {xs : List Value} (hsub : ∀ id,C.fz id → C.fx id) (hl : LR C h none us xs) (hf : us.all firm = true) : VR C h (some (.tmp d)) (pPack us) (packed xs) ∧ sound (pPack us) = true ∧ isOwn (pPack us) = false := by
 rcases hl.ind with ⟨rfl,rfl⟩ | ⟨u,x,r,r',rfl,rfl,h1,h2⟩
 ·exact ⟨.t _ _ _ rfl (fun i hi => absurd hi (Nat.not_lt_zero _)),rfl,rfl⟩
 ·rcases h2.ind with ⟨rfl,rfl⟩ | ⟨_,_,_,_,rfl,rfl,_,_⟩
  ·simp only [List.all_cons,Bool.and_eq_true] at hf
   refine ⟨firm_any hsub hf.1 h1, ?_,(firm_loose hf.1).2⟩
   show sound u = true
   cases u with
   | t cs => cases hf.1
   | l k c n cs => cases k <;> first | exact hf.1 | rfl
   | m k es c => cases k <;> first | exact hf.1 | rfl
   | _ => exact hf.1
  ·exact ⟨VR.tuple_of hl,hf,rfl⟩
theorem aIn_aext : ∀ {css : List (List Value)} {h : AHeap},AExt h (aIn css h).2
 | [],h => AExt.refl _
 | cs :: r,h => (AExt.alloc h _).trans (aIn_aext (css := r))
theorem fnOK_lib {g : FuncId} (e0 : List KA → Option (List KR)) (hx : Y.ext g = libP e0) (hb : (bodyOf P g).isSome = true)
  (hc : ∀ as0 rs,e0 as0 = some rs → ∀ m h w,Rel P m h w → ∀ args,LDens w args as0 → Calls P g args.toArray w fun e w' => ∃ vs,e = .returned (packed vs) ∧ Below w.heap.size w w' ∧ RDens w.heap.size w' vs rs) : FnOK P Y g := by
 refine ⟨libA e0,fun args h v h' hq => ?_,fun args hp r hp' w hq C h args' d hin => ?_⟩
 ·unfold libA at hq
  split at hq
  ·rename_i as0 has
   split at hq
   ·rename_i rs hrs
    split at hq
    ·rename_i hok
     cases hq
     refine ⟨aRes_ext,hb,fun m w args' hR hA => ?_⟩
     refine (hc as0 rs hrs m h w hR args' (aaArgs_den hR has hA)).mono fun e w' ⟨vs,he,hbl,hd⟩ => ?_
     obtain ⟨r1,r2⟩ := hR.below hbl
     obtain ⟨m',e1,e2,e3,e4⟩ := aRes_rel (m0 := m) (h0 := h) (w0 := w) (fun a L hL => hR.lt a L hL) r1 r2 (fun a L hL => .inl hL) (fun a B L _ hL hn => absurd (hR.lt a L hL) (Nat.not_lt.2 hn)) (fun a x L _ hL => hR.lt a L hL) hok hd
     exact ⟨m',packed vs,he,packed_ext e2,e3,e4⟩
    ·cases hq
   ·cases hq
  ·cases hq
 ·rw [hx] at hq
  unfold libP at hq
  split at hq
  ·rename_i as0 has
   split at hq
   ·rename_i rs hrs
    split at hq
    ·rename_i hok
     cases hq
     have st0 : ST P Y 0 C h ⟨[],.nil,hp,none⟩ .nil := ⟨hin.sz,hin.hi,fun t v hv => absurd (look_none.symm.trans hv) (fun e => by cases e),fun t v _ hv => (by cases hv),hin.gr,fun d t es c es' c' h1 => absurd (look_none.symm.trans h1) (fun e => by cases e)⟩
     obtain ⟨C',s2,t2,o2,b2,w2,l2⟩ := res_sim hok st0
     obtain ⟨p1,p2,p3⟩ := pPack_vr (d := d) s2.hi.fzx l2 pRes_firm
     refine ⟨C',(aRes rs h).2,packed (aRes rs h).1, ?_,⟨s2.hi,t2.ext,t2.ids,Nat.le_refl _,fun b id hb => by rw [b2] at hb; exact .inl hb,fun id p ho => .inl (hin.owc id p (by rw [w2] at ho; exact ho)),p1,p2,(fun e => absurd (p3.symm.trans e) (by decide)),fun F l => t2.lp F (fun id hid => Nat.le_trans l.n0 hid) l⟩⟩
     unfold libA
     rw [paArgs_aa has hin.args]
     simp only [hrs,hok]
    ·cases hq
   ·cases hq
  ·cases hq
where aRes_ext : ∀ {rs : List KR} {h : AHeap}, AExt h (aRes rs h).2
 | [],h => AExt.refl _
 | .p v :: r,h => aRes_ext (rs := r)
 | .l cs :: r,h => (AExt.alloc h _).trans (aRes_ext (rs := r))
 | .e ty :: r,h => (AExt.alloc h _).trans (aRes_ext (rs := r))
 | .ll css :: r,h => (aIn_aext.trans (AExt.alloc _ _)).trans (aRes_ext (rs := r))
end
end Go.Pur
set_option linter.unusedSimpArgs false
set_option linter.unusedVariables false
namespace Go.Proofs.YtcjephdjemapbaaDoor
open Go.Abs Go.Pur
def howOf (f g : Nat) : List (Bool × Nat) := []
def mvOf (f t : Nat) : Bool := match Nat.beq f 8 with
 | true => Nat.beq t 37
 | false => match Nat.beq f 14 with
  | true => match Nat.beq t 70 with
   | true => true
   | false => match Nat.beq t 71 with
    | true => true
    | false => match Nat.beq t 72 with
     | true => true
     | false => Nat.beq t 83
  | false => false
def fzmOf (f t : Nat) : Bool := match Nat.beq f 14 with
 | true => match Nat.beq t 75 with
  | true => true
  | false => Nat.beq t 79
 | false => false
def exL (a b x : UInt8) : UInt8 := if x = a then b else if x = b then a else x
def e54 : List KA → Option (List KR)
 | [.p (.string s),.p (.int .i32 (.ofNat a)),.p (.int .i32 (.ofNat b))] => match Nat.ble s.size 1000,Nat.blt a 128,Nat.blt b 128,s.data.toList.all fun x => Nat.blt x.toNat 128 with
  | true,true,true,true => some [.p (.string ⟨(s.data.toList.map (exL a.toUInt8 b.toUInt8)).toArray⟩)]
  | _,_,_,_ => none
 | _ => none
def yesOf (g : FuncId) : Bool := Nat.beq g 54
def Y0 : Pol := { yes := yesOf,ext := fun _ => libP e54,keep := keepOf,glob := [tab32.map (fun n => PV.v (.int .u8 n)),tab64.map (fun n => PV.v (.int .u8 n))],mv := mvOf,fzm := fzmOf }
theorem Y0_fzm {f t : Nat} : Y0.fzm f t = fzmOf f t := rfl
theorem Y0_keep {f t : Nat} : Y0.keep f t = keepOf f t := rfl
def partOf (f : Nat) : List (Bool × Nat) := []
theorem Y0_how {f g : Nat} : Y0.how f g = howOf f g := rfl
theorem Y0_mv {f t : Nat} : Y0.mv f t = mvOf f t := rfl
theorem Y0_part {f : Nat} : Y0.part f = partOf f := rfl
end Go.Proofs.YtcjephdjemapbaaDoor
set_option linter.unusedSimpArgs false
set_option linter.unusedVariables false
set_option linter.unusedSectionVars false
namespace Go.Proofs.YtcjephdjemapbaaDoor
open Go.Abs
def tabs : List Blk := [tabBlk .u8 tab32 124,tabBlk .u8 tab64 125,bareBlk 126,bareBlk 129,bareBlk 3]
def tabLocs : List Abs.Loc := [⟨0,0,0⟩,⟨1,0,0⟩,⟨2,0,0⟩,⟨3,0,0⟩,⟨4,0,0⟩]
theorem own : ownKnob Tryd.prog.godebug = none := by kernel_rfl
theorem mix : Tryd.prog.follows .mixedOrders = true := by kernel_rfl
theorem nglob : Tryd.prog.globals.size = 5 := by kernel_rfl
theorem g32 : Tryd.prog.globalNamed "math/bits.deBruijn32tab" = some 0 := by kernel_rfl
theorem g64 : Tryd.prog.globalNamed "math/bits.deBruijn64tab" = some 1 := by kernel_rfl
theorem t32 : (Tryd.prog.globals[0]?).map (·.type) = some 124 := by kernel_rfl
theorem t64 : (Tryd.prog.globals[1]?).map (·.type) = some 125 := by kernel_rfl
theorem cells124 : Tryd.prog.cellsOf 124 = 32 := by kernel_rfl
theorem cells125 : Tryd.prog.cellsOf 125 = 64 := by kernel_rfl
theorem cells5 : Tryd.prog.cellsOf 5 = 1 := by kernel_rfl
def laidList : List (String × DataW Unit) := [("math/bits.deBruijn32tab", Rows.laid_math_bits_deBruijn32tab), ("math/bits.deBruijn64tab", Rows.laid_math_bits_deBruijn64tab), ("unicode/utf8.acceptRanges", Rows.laid_unicode_utf8_acceptRanges), ("unicode/utf8.first", Rows.laid_unicode_utf8_first)]
theorem tabs_lie {W : World} (h : laidMetH Tryd.prog laidList W) : Lies W (tabBlk .u8 tab32 124) ⟨0,0,0⟩ ∧ Lies W (tabBlk .u8 tab64 125) ⟨1,0,0⟩ := by
 have h1 : laidMet Tryd.prog laidList W := h
 have h2 : laidMet Tryd.prog [("math/bits.deBruijn64tab", Rows.laid_math_bits_deBruijn64tab), ("unicode/utf8.acceptRanges", Rows.laid_unicode_utf8_acceptRanges), ("unicode/utf8.first", Rows.laid_unicode_utf8_first)] W := laidMet_tail h1
 exact ⟨lies_tab 124 g32 (Lib.tabIs_of_head g32 t32 Tryd.underlying124 Tryd.underlying5 cells5 cells124 h1) (by decide),
  lies_tab 125 g64 (Lib.tabIs_of_head g64 t64 Tryd.underlying125 Tryd.underlying5 cells5 cells125 h2) (by decide)⟩
noncomputable def zt (g : Nat) (h : (((begin Tryd.prog (fun _ _ => 0) default).world.heap[g]?).bind Obj.row?).isSome = true) : {zt : Array Value × TypeId // ((begin Tryd.prog (fun _ _ => 0) default).world.heap[g]?).bind Obj.row? = some (zt.1, zt.2)} := ⟨(Option.get _ h), (Option.some_get h).symm⟩
noncomputable def z2 := zt 2 (by kernel_rfl)
noncomputable def z3 := zt 3 (by kernel_rfl)
noncomputable def z4 := zt 4 (by kernel_rfl)
theorem start {W : World} (h : laidMetH Tryd.prog laidList W) (hS : W.ShapedOpen Tryd.prog) (l : List Blk) (ls : List Abs.Loc) (hlen : l.length = ls.length) (hl : ∀ (i : Nat) (B : Blk) (L : Abs.Loc),l[i]? = some B → ls[i]? = some L → Lies W B L) :
  Rel Tryd.prog (mapOf (tabLocs ++ ls)) (heapOf (tabs ++ l)) W := by
 obtain ⟨h1,h2⟩ := tabs_lie h
 refine rel_init _ _ (by simp [tabs,tabLocs,hlen]) (fun i B L hB hL => ?_) (fun g hg => ?_)
 ·match i,hB,hL with
  | 0,hB,hL => cases hB; cases hL; exact h1
  | 1,hB,hL => cases hB; cases hL; exact h2
  | 2,hB,hL => cases hB; cases hL; exact lies_bare 126 hS (by rw [nglob]; decide) z2.2
  | 3,hB,hL => cases hB; cases hL; exact lies_bare 129 hS (by rw [nglob]; decide) z3.2
  | 4,hB,hL => cases hB; cases hL; exact lies_bare 3 hS (by rw [nglob]; decide) z4.2
  | i + 5,hB,hL => exact hl i B L (by simpa [tabs] using hB) (by simpa [tabLocs] using hL)
 ·rw [nglob] at hg
  match g,hg with
  | 0,_ => rfl
  | 1,_ => rfl
  | 2,_ => rfl
  | 3,_ => rfl
  | 4,_ => rfl
theorem tabs_wr : ∀ B ∈ tabs,B.wr = false := by
 intro B hB
 simp only [tabs,List.mem_cons,List.not_mem_nil,or_false] at hB
 rcases hB with rfl | rfl | rfl | rfl | rfl <;> rfl
def cellsInto (l : List Value) (o : Obj) : Obj :=
 match o with
 | .cells _ t frozen => .cells l.toArray t frozen
 | o => o
def tabFirst : List Int := Pinned.utf8FirstZ.map Int.ofNat
def tabAccept : List Int := [128,191,160,191,128,159,144,191,128,143,0,0,0,0,0,0,0,0,0,0,0,0,0,0,0,0,0,0,0,0,0,0]
noncomputable def laidWorld (os : Os) : World :=
 { World.holding Tryd.prog os ⟨#[],#[],[]⟩ with heap := ((((World.holding Tryd.prog os ⟨#[],#[],[]⟩).heap.modify 0 (cellsInto (tab32.map (Value.int .u8 ·)))).modify 1 (cellsInto (tab64.map (Value.int .u8 ·)))).modify 2 (cellsInto (tabFirst.map (Value.int .u8 ·)))).modify 3 (cellsInto (tabAccept.map (Value.int .u8 ·))) }
end Go.Proofs.YtcjephdjemapbaaDoor
namespace Go.Proofs
open Go.Shelf
def Tryd.lays169_ren : Go.Shelf.Ren := ⟨fun | 169 => 98 | n => n,fun | 70 => 104 | 9 => 9 | 0 => 0 | 72 => 106 | 37 => 79 | 127 => 123 | 3 => 3 | 5 => 5 | n => n,fun | n => n⟩
theorem Tryd.lays169 : Go.Proofs.Lays.n169 Tryd.prog Tryd.lays169_ren := {
 mixed := by kernel_rfl
 f169 := Tryd.func98.trans (congrArg some (by kernel_rfl))
 t0 := Tryd.underlying0
 a0 := Tryd.isAgg0
 z0 := Tryd.sizeOf0
 v0 := Tryd.zeroValue0
 t3 := Tryd.underlying3
 a3 := Tryd.isAgg3
 z3 := Tryd.sizeOf3
 v3 := Tryd.zeroValue3
 t9 := Tryd.underlying9
 a9 := Tryd.isAgg9
 z9 := Tryd.sizeOf9
 v9 := Tryd.zeroValue9
 t37 := Tryd.underlying79
 a37 := Tryd.isAgg79
 z37 := Tryd.sizeOf79
 v37 := Tryd.zeroValue79
 t70 := Tryd.underlying104
 a70 := Tryd.isAgg104
 z70 := Tryd.sizeOf104
 v70 := Tryd.zeroValue104
 t72 := Tryd.underlying106
 a72 := Tryd.isAgg106
 z72 := Tryd.sizeOf106
 v72 := Tryd.zeroValue106
 t127 := Tryd.underlying123
 a127 := Tryd.isAgg123
 z127 := Tryd.sizeOf123
 v127 := Tryd.zeroValue123 }
theorem Tryd.Builder_Extra_169 : Builder.Extra Tryd.prog Tryd.lays169_ren := {
 sizeBuilder := by kernel_rfl
 liesBuilder := by kernel_rfl
 t5 := Tryd.underlying5
 a5 := Tryd.isAgg5
 z5 := Tryd.sizeOf5
 v5 := Tryd.zeroValue5
 infoByte := by kernel_rfl
 cellsByte := by kernel_rfl
 sizeByte := by kernel_rfl
 neB5 := by decide }
def Tryd.lays241_ren : Go.Shelf.Ren := ⟨fun | 241 => 107 | 277 => 114 | n => n,fun | 70 => 104 | 3 => 3 | 0 => 0 | 72 => 106 | 37 => 79 | 5 => 5 | n => n,fun | n => n⟩
theorem Tryd.lays241 : Go.Proofs.Lays.n241 Tryd.prog Tryd.lays241_ren := {
 mixed := by kernel_rfl
 f241 := Tryd.func107.trans (congrArg some (by kernel_rfl))
 f277 := Tryd.func114.trans (congrArg some (by kernel_rfl))
 t0 := Tryd.underlying0
 a0 := Tryd.isAgg0
 z0 := Tryd.sizeOf0
 v0 := Tryd.zeroValue0
 t3 := Tryd.underlying3
 a3 := Tryd.isAgg3
 z3 := Tryd.sizeOf3
 v3 := Tryd.zeroValue3
 t37 := Tryd.underlying79
 a37 := Tryd.isAgg79
 z37 := Tryd.sizeOf79
 v37 := Tryd.zeroValue79
 t70 := Tryd.underlying104
 a70 := Tryd.isAgg104
 z70 := Tryd.sizeOf104
 v70 := Tryd.zeroValue104
 t72 := Tryd.underlying106
 a72 := Tryd.isAgg106
 z72 := Tryd.sizeOf106
 v72 := Tryd.zeroValue106 }
theorem Tryd.Builder_Extra_241 : Builder.Extra Tryd.prog Tryd.lays241_ren := {
 sizeBuilder := by kernel_rfl
 liesBuilder := by kernel_rfl
 t5 := Tryd.underlying5
 a5 := Tryd.isAgg5
 z5 := Tryd.sizeOf5
 v5 := Tryd.zeroValue5
 infoByte := by kernel_rfl
 cellsByte := by kernel_rfl
 sizeByte := by kernel_rfl
 neB5 := by decide }
def Tryd.lays118_ren : Go.Shelf.Ren := ⟨fun | 118 => 92 | n => n,fun | 21 => 21 | 3 => 3 | 4 => 4 | n => n,fun | n => n⟩
theorem Tryd.lays118 : Go.Proofs.Lays.n118 Tryd.prog Tryd.lays118_ren := {
 mixed := by kernel_rfl
 f118 := Tryd.func92.trans (congrArg some (by kernel_rfl))
 t3 := Tryd.underlying3
 a3 := Tryd.isAgg3
 z3 := Tryd.sizeOf3
 v3 := Tryd.zeroValue3
 t4 := Tryd.underlying4
 a4 := Tryd.isAgg4
 z4 := Tryd.sizeOf4
 v4 := Tryd.zeroValue4
 t21 := Tryd.underlying21
 a21 := Tryd.isAgg21
 z21 := Tryd.sizeOf21
 v21 := Tryd.zeroValue21 }
theorem Tryd.utf8_RuneLen (r : Int) (w : World) :
  Calls Tryd.prog 92 #[.int .i32 r] w fun e w' => e = .returned (.int .i64 (Lib.runeLen r)) ∧ w' = w := Any.utf8_RuneLen Tryd.lays118 r w
end Go.Proofs
set_option linter.unusedSimpArgs false
set_option linter.unusedVariables false
namespace Go.Proofs.YtcjephdjemapbaaDoor
open Go.RowKit
set_option maxRecDepth 100000
set_option maxHeartbeats 2000000
theorem sizeBuilder : ∃ j,Tryd.prog.info? 106 = some j ∧ j.size = 2 := Option.map_eq_some_iff.1 Tryd.Builder_Extra_169.sizeBuilder
theorem copyCheck_used (b : Nat) (w : World) (h0 : w.cell? ⟨b,0,none⟩ = some (.pointer (some ⟨b,0,none⟩))) :
  Calls Tryd.prog 106 #[.pointer (some ⟨b,0,none⟩)] w fun e w' => e = .returned (.tuple #[]) ∧ w' = w := by
 obtain ⟨j,hj,_⟩ := sizeBuilder
 go_enter Tryd.func106,Tryd.ntmps106
 go_wp2
 rw [Lib.run_neq_ptr_same w _ Tryd.underlying104 hj]
 go_wp2
 go_end0
 exact ⟨rfl,rfl⟩
theorem copyCheck_fresh (b : Nat) (w : World) (h0 : w.cell? ⟨b,0,none⟩ = some (.pointer none)) (hsh : w.shape? b = some (106,2)) (hfz : w.frozen? ⟨b,0,none⟩ = false) :
  Calls Tryd.prog 106 #[.pointer (some ⟨b,0,none⟩)] w fun e w' => e = .returned (.tuple #[]) ∧ w' = w.setCell ⟨b,0,none⟩ (.pointer (some ⟨b,0,none⟩)) := by
 obtain ⟨j,hj,hjs⟩ := sizeBuilder
 go_enter Tryd.func106,Tryd.ntmps106
 go_wp2
 rw [Lib.run_to_unsafe w ⟨b,0,none⟩ Tryd.underlying104 Tryd.underlying133 hj (by rw [hjs]; decide) hsh (Nat.zero_lt_succ 1)]
 simp only [Result.andThen]
 rw [Oper.upon_value]
 go_wp2
 rw [run_callFunc_extern Tryd.func113 (by kernel_rfl) (by kernel_rfl) (by kernel_rfl) (e := Extern.AbiNoEscape.same) (by kernel_rfl)]
 rw [Lib.run_noEscape]
 simp only [Result.andThen]
 rw [Oper.upon_value]
 go_wp2
 rw [Lib.run_from_unsafe w ⟨b,0,none⟩ Tryd.underlying133 Tryd.underlying104 hj hsh Tryd.Builder_Extra_169.liesBuilder]
 simp only [Result.andThen]
 rw [Oper.upon_value]
 go_wp2
 go_end0
 exact ⟨rfl,rfl⟩
theorem copyCheckK (B b : Nat) (bs : List Value) (w : World) (h : Lib.IsBuilderF 106 5 B b bs w) :
  Calls Tryd.prog 106 #[.pointer (some ⟨b,0,none⟩)] w fun e w' => e = .returned (.tuple #[]) ∧ (Lib.BuilderAtF 106 5 B b (.pointer (some ⟨b,0,none⟩)) bs w' ∧ Below B w w' ∧ Lib.OthersKept 5 (some b) w w') := by
 rcases h with h | h
 ·refine (copyCheck_fresh b w h.cell0 h.shape h.frozen0).mono ?_
  rintro e w' ⟨rfl,rfl⟩
  exact ⟨rfl,h.used _,(Below.refl B w).setCell (p := ⟨b,0,none⟩) h.1 _,(Lib.OthersKept.refl _ _ w).setCell ⟨b,0,none⟩ rfl _⟩
 ·refine (copyCheck_used b w h.cell0).mono ?_
  rintro e w' ⟨rfl,rfl⟩
  exact ⟨rfl,h,Below.refl B _,Lib.OthersKept.refl _ _ _⟩
theorem writeByteK (B b : Nat) (bs : List Value) (c : Int) (w : World) (h : Lib.IsBuilderF 106 5 B b bs w) (hlen : bs.length + 1 ≤ 140737488355328) (hBw : B ≤ w.heap.size) :
  Calls Tryd.prog 97 #[.pointer (some ⟨b,0,none⟩),.int .u8 c] w fun e w' => e = .returned .nilIface ∧ (Lib.BuilderAtF 106 5 B b (.pointer (some ⟨b,0,none⟩)) (bs ++ [.int .u8 c]) w' ∧ Below B w w' ∧ Lib.OthersKept 5 (some b) w w') := by
 obtain ⟨i0,hi,hz0,hz1,hz2⟩ := info_parts Tryd.Builder_Extra_169.infoByte
 go_enter Tryd.func97,Tryd.ntmps97
 go_wp2_with (go_at_call 106; refine (copyCheckK B b bs _ h).mono ?_)
 rintro e w1 ⟨rfl,h1,hb1,hk1⟩
 obtain ⟨hB,v,hbk,hown,hne⟩ := h1
 have c0 : w1.cell? ⟨b,0,none⟩ = some (.pointer (some ⟨b,0,none⟩)) := by rw [Lib.cell_of_heap hbk]; rfl
 have c1 : w1.cell? ⟨b,1,none⟩ = some v := by rw [Lib.cell_of_heap hbk]; rfl
 go_wp2_with (at_builtin; refine wpList_append_ownF _ rfl _ _ 79 rfl B 5 i0 (.int .u8 0) 1 1 Tryd.underlying79 hi hz0 hz1 hz2 rfl (by decide) _ _ _ rfl (hown.alloc _) ⟨w1.heap.size,0,none⟩ 1 1 [.int .u8 c] rfl rfl ?c1 ?c2 ?c3 ?c4 ?c5 ?_)
 case c1 =>
  intro j u hj
  match j,hj with
  | 0,hj => simp at hj; subst hj; simp [Addr.add]
 case c2 => intro u hu; simp at hu; subst hu; rfl
 case c3 => unfold maxLen; omega
 case c4 => omega
 case c5 => have := hb1.size; simp; omega
 intro v' w2 hown' hgrow _
 have hlt : b < w1.heap.size := by
  rcases Nat.lt_or_ge b w1.heap.size with h' | h'
  ·exact h'
  ·simp [Array.getElem?_eq_none h'] at hbk
 have hb2 : w2.heap[b]? = some (.cells #[.pointer (some ⟨b,0,none⟩),v] 106 (0,0)) := by
  rw [hgrow.block b (by simp; omega) (fun e => hne e.symm),Lib.alloc_old w1 _ b hlt]
  exact hbk
 have d0 : w2.cell? ⟨b,0,none⟩ = some (.pointer (some ⟨b,0,none⟩)) := by rw [Lib.cell_of_heap hb2]; rfl
 have d1 : w2.cell? ⟨b,1,none⟩ = some v := by rw [Lib.cell_of_heap hb2]; rfl
 have f1 : w2.frozen? ⟨b,1,none⟩ = false := Lib.frozen_of_heap hb2 1
 obtain ⟨g,cap,rfl⟩ : ∃ g cap,v' = .slice (some ⟨g,0,none⟩) (bs.length + 1) cap := by
  rcases hown'.2 with ⟨_,h0⟩ | ⟨g,cap,cur,fz,hv,_⟩
  ·omega
  ·exact ⟨g,cap,hv⟩
 go_wp2
 go_ret
 refine ⟨rfl, ?_, ?_,((hk1.alloc _).grown hgrow (Lib.ownsRowF_kind (hown.alloc _))).setCell ⟨b,1,none⟩ rfl _⟩
 ·exact Lib.BuilderAtF.put (T := 106) (e := 5) hB hb2 (bs' := bs ++ [.int .u8 c]) (by simpa using hown') Tryd.Builder_Extra_169.neB5
 ·exact ((hb1.alloc (by have := hb1.size; omega) _).grown hgrow (by have := hb1.size; simp; omega) (fun k hk => (hown.lt k hk).1)).setCell (p := ⟨b,1,none⟩) hB _
theorem stringK (B b : Nat) (l : List UInt8) (w : World) (h : Lib.IsBuilderF 106 5 B b (Lib.byteCells l) w) (hBw : B ≤ w.heap.size) :
  Calls Tryd.prog 98 #[.pointer (some ⟨b,0,none⟩)] w fun e w' => e = .returned (.string ⟨l.toArray⟩) ∧ (Lib.IsBuilderF 106 5 B b (Lib.byteCells l) w' ∧ Below B w w') := Any.Builder_String_any_f Tryd.lays169 Tryd.Builder_Extra_169 B b l w h hBw
theorem growB (B b n : Nat) (w : World) (hB : B ≤ b) (hbk : w.heap[b]? = some (.cells #[.pointer (some ⟨b,0,none⟩),.slice none 0 0] 106 (0,0))) (hBw : B ≤ w.heap.size) (hn : n ≤ 281474976710656) :
  Calls Tryd.prog 107 #[.pointer (some ⟨b,0,none⟩),.int .i64 n] w fun e w' => e = .returned (.tuple #[]) ∧ (Lib.BuilderAt 106 5 B b (.pointer (some ⟨b,0,none⟩)) [] w' ∧ Below B w w') :=
 Any.Builder_grow_fresh Tryd.lays241 Tryd.Builder_Extra_241 B b n w hB hbk hBw hn
theorem growBuilder (B b n : Nat) (w : World) (hB : B ≤ b) (hbk : w.heap[b]? = some (.cells #[.pointer none,.slice none 0 0] 106 (0,0))) (hBw : B ≤ w.heap.size) (hn : n ≤ 281474976710656) :
  Calls Tryd.prog 93 #[.pointer (some ⟨b,0,none⟩),.int .i64 n] w fun e w' => e = .returned (.tuple #[]) ∧ (Lib.BuilderAt 106 5 B b (.pointer (some ⟨b,0,none⟩)) [] w' ∧ Below B w w') := by
 have hbk1 : (w.setCell ⟨b,0,none⟩ (.pointer (some ⟨b,0,none⟩))).heap[b]? = some (.cells #[.pointer (some ⟨b,0,none⟩),.slice none 0 0] 106 (0,0)) := by
  simp [World.setCell,Array.getElem?_modify,hbk]
 have c1 : (w.setCell ⟨b,0,none⟩ (.pointer (some ⟨b,0,none⟩))).cell? ⟨b,1,none⟩ = some (.slice none 0 0) := by rw [Lib.cell_of_heap hbk1]; rfl
 have hb1 : Below B w (w.setCell ⟨b,0,none⟩ (.pointer (some ⟨b,0,none⟩))) := (Below.refl B w).setCell (p := ⟨b,0,none⟩) hB _
 have mixed : Tryd.prog.follows .mixedOrders = true := by kernel_rfl
 go_enter Tryd.func93,Tryd.ntmps93
 have hU : Lib.BuilderAt 106 5 B b (.pointer (some ⟨b,0,none⟩)) [] (w.setCell ⟨b,0,none⟩ (.pointer (some ⟨b,0,none⟩))) := ⟨hB,.slice none 0 0,hbk1,World.ownsRow_nil _ _ _ _,by simp [Value.ownBlock]⟩
 have c1' : (w.setCell ⟨b,0,none⟩ (.pointer (some ⟨b,0,none⟩))).drew.cell? ⟨b,1,none⟩ = some (.slice none 0 0) := c1
 go_wp2_with (go_at_call 106; refine (copyCheck_fresh b w (by rw [Lib.cell_of_heap hbk]; rfl) (by simp [World.shape?,hbk]) (Lib.frozen_of_heap hbk 0)).mono ?_; rintro e w' ⟨rfl,rfl⟩)
 go_region_o
 all_goals go_wp2_with (go_at_call 107; refine (growB B b n (w.setCell ⟨b,0,none⟩ (.pointer (some ⟨b,0,none⟩))).drew hB hbk1 (by simpa [World.setCell,World.drew,-World.drew_eq] using hBw) hn).mono ?_; rintro e w' ⟨rfl,h1,h2⟩)
 all_goals first
  | (go_end0; exact ⟨rfl,h1,hb1.drew.trans h2⟩)
  | (go_end0; exact ⟨rfl,hU.drew,hb1.drew⟩)
theorem writeStringK (B b : Nat) (bs : List Value) (s : ByteArray) (w : World) (h : Lib.IsBuilderF 106 5 B b bs w) (hlen : bs.length + s.size ≤ 140737488355328) (hBw : B ≤ w.heap.size) :
  Calls Tryd.prog 94 #[.pointer (some ⟨b,0,none⟩),.string s] w fun e w' => e = .returned (.tuple #[.int .i64 s.size,.nilIface]) ∧ (Lib.BuilderAtF 106 5 B b (.pointer (some ⟨b,0,none⟩)) (bs ++ Lib.strCells s) w' ∧ Below B w w' ∧ Lib.OthersKept 5 (some b) w w') := by
 obtain ⟨i0,hi,hz0,hz1,hz2⟩ := info_parts Tryd.Builder_Extra_169.infoByte
 go_enter Tryd.func94,Tryd.ntmps94
 go_wp2_with (go_at_call 106; refine (copyCheckK B b bs _ h).mono ?_)
 rintro e w1 ⟨rfl,h1,hb1,hk1⟩
 obtain ⟨hB,v,hbk,hown,hne⟩ := h1
 have c0 : w1.cell? ⟨b,0,none⟩ = some (.pointer (some ⟨b,0,none⟩)) := by rw [Lib.cell_of_heap hbk]; rfl
 have c1 : w1.cell? ⟨b,1,none⟩ = some v := by rw [Lib.cell_of_heap hbk]; rfl
 go_wp2_with (at_builtin; refine Lib.wpList_append_own_stringF _ rfl _ _ 79 9 rfl B 5 i0 Tryd.underlying79 Tryd.underlying9 hi hz0 hz1 hz2 _ _ _ rfl hown s rfl ?c3 ?c4 ?c5 ?_)
 case c3 => unfold maxLen; omega
 case c4 => omega
 case c5 => have := hb1.size; omega
 intro v' w2 hown' hgrow _
 have hlt : b < w1.heap.size := by
  rcases Nat.lt_or_ge b w1.heap.size with h' | h'
  ·exact h'
  ·simp [Array.getElem?_eq_none h'] at hbk
 have hb2 : w2.heap[b]? = some (.cells #[.pointer (some ⟨b,0,none⟩),v] 106 (0,0)) := by
  rw [hgrow.block b hlt (fun e => hne e.symm)]
  exact hbk
 have d0 : w2.cell? ⟨b,0,none⟩ = some (.pointer (some ⟨b,0,none⟩)) := by rw [Lib.cell_of_heap hb2]; rfl
 have d1 : w2.cell? ⟨b,1,none⟩ = some v := by rw [Lib.cell_of_heap hb2]; rfl
 have f1 : w2.frozen? ⟨b,1,none⟩ = false := Lib.frozen_of_heap hb2 1
 obtain ⟨ao,n',cap,rfl⟩ : ∃ ao n' cap,v' = .slice ao n' cap := by
  rcases hown'.2 with ⟨hv,_⟩ | ⟨g,cap,cur,fz,hv,_⟩
  ·exact ⟨_,_,_,hv⟩
  ·exact ⟨_,_,_,hv⟩
 go_wp2
 go_ret2
 refine ⟨rfl, ?_, ?_,(hk1.grown hgrow (Lib.ownsRowF_kind hown)).setCell ⟨b,1,none⟩ rfl _⟩
 ·exact Lib.BuilderAtF.put (T := 106) (e := 5) hB hb2 (bs' := bs ++ Lib.strCells s) (by simpa [Lib.strCells_length] using hown') Tryd.Builder_Extra_169.neB5
 ·exact (hb1.grown hgrow (by have := hb1.size; omega) (fun k hk => (hown.lt k hk).1)).setCell (p := ⟨b,1,none⟩) hB _
theorem capBuilder (b : Nat) (p : Option Addr) (n cap : Nat) (w : World) (c1 : w.cell? ⟨b,1,none⟩ = some (.slice p n cap)) :
  Calls Tryd.prog 96 #[.pointer (some ⟨b,0,none⟩)] w fun e w' => e = .returned (.int .i64 cap) ∧ w' = w := by
 go_enter Tryd.func96,Tryd.ntmps96
 go_wp2
 go_ret
 exact ⟨rfl,rfl⟩
theorem appendRuneK (B : Nat) (v : Value) (bs : List Value) (r : Nat) (hr : r ≤ 127) (w : World) (hown : w.ownsRowF B 5 1 v bs.length bs) (hlen : bs.length + 1 ≤ 140737488355328) (hBw : B ≤ w.heap.size) :
  Calls Tryd.prog 108 #[v,.int .i32 r] w fun e w' => ∃ v',e = .returned v' ∧ w'.ownsRowF B 5 1 v' (bs.length + 1) (bs ++ [.int .u8 r]) ∧ ∃ o,(w.alloc o).grownBy w' v.ownBlock := by
 obtain ⟨i0,hi,hz0,hz1,hz2⟩ := info_parts Tryd.Builder_Extra_169.infoByte
 have u32 : IntKind.u32.wrap (r : Int) = r := by rw [IntWalk.u32_in] <;> omega
 have u8 : IntKind.u8.wrap (r : Int) = r := by rw [IntWalk.u8_in] <;> omega
 have hle : (r : Int) ≤ 127 := by omega
 go_enter Tryd.func108,Tryd.ntmps108
 go_wp2_with (at_builtin; refine wpList_append_ownF _ rfl _ _ 79 rfl B 5 i0 (.int .u8 0) 1 1 Tryd.underlying79 hi hz0 hz1 hz2 rfl (by decide) _ _ _ rfl (hown.alloc _) ⟨w.heap.size,0,none⟩ 1 1 [.int .u8 r] rfl rfl ?c1 ?c2 ?c3 ?c4 ?c5 ?_)
 case c1 =>
  intro j u hj
  match j,hj with
  | 0,hj => simp at hj; subst hj; simp [Addr.add]
 case c2 => intro u hu; simp at hu; subst hu; rfl
 case c3 => unfold maxLen; omega
 case c4 => omega
 case c5 => simp; omega
 intro v' w2 hown' hgrow _
 obtain ⟨g,cap,rfl⟩ : ∃ g cap,v' = .slice (some ⟨g,0,none⟩) (bs.length + 1) cap := by
  rcases hown'.2 with ⟨_,h0⟩ | ⟨g,cap,cur,fz,hv,_⟩
  ·omega
  ·exact ⟨g,cap,hv⟩
 go_wp2
 go_ret
 exact ⟨_,rfl,by simpa using hown',_,hgrow⟩
theorem writeRuneK (B b : Nat) (bs : List Value) (r : Nat) (hr : r ≤ 127) (w : World) (h : Lib.IsBuilderF 106 5 B b bs w) (hlen : bs.length + 1 ≤ 140737488355328) (hBw : B ≤ w.heap.size) :
  Calls Tryd.prog 95 #[.pointer (some ⟨b,0,none⟩),.int .i32 r] w fun e w' => e = .returned (.tuple #[.int .i64 1,.nilIface]) ∧ (Lib.BuilderAtF 106 5 B b (.pointer (some ⟨b,0,none⟩)) (bs ++ [.int .u8 r]) w' ∧ Below B w w' ∧ Lib.OthersKept 5 (some b) w w') := by
 have mixed : Tryd.prog.follows .mixedOrders = true := by kernel_rfl
 go_enter Tryd.func95,Tryd.ntmps95
 go_wp2_with (go_at_call 106; refine (copyCheckK B b bs _ h).mono ?_)
 rintro e w1 ⟨rfl,h1,hb1,hk1⟩
 obtain ⟨hB,v,hbk,hown,hne⟩ := h1
 obtain ⟨ao,cap,rfl⟩ : ∃ ao cap,v = .slice ao bs.length cap := by
  rcases hown.2 with ⟨hv,h0⟩ | ⟨g,cap,cur,fz,hv,_⟩
  ·exact ⟨none,0,by rw [hv,h0]⟩
  ·exact ⟨_,_,hv⟩
 have c0 : w1.cell? ⟨b,0,none⟩ = some (.pointer (some ⟨b,0,none⟩)) := by rw [Lib.cell_of_heap hbk]; rfl
 have c1 : w1.cell? ⟨b,1,none⟩ = some (.slice ao bs.length cap) := by rw [Lib.cell_of_heap hbk]; rfl
 go_wp2_with (go_at_call 108; refine (appendRuneK B _ bs r hr _ hown hlen (by have := hb1.size; omega)).mono ?_)
 rintro e w2 ⟨v',rfl,hown',o,hgrow⟩
 have hlt : b < w1.heap.size := by
  rcases Nat.lt_or_ge b w1.heap.size with h' | h'
  ·exact h'
  ·simp [Array.getElem?_eq_none h'] at hbk
 have hb2 : w2.heap[b]? = some (.cells #[.pointer (some ⟨b,0,none⟩),.slice ao bs.length cap] 106 (0,0)) := by
  rw [hgrow.block b (by simp; omega) (fun e => hne e.symm),Lib.alloc_old w1 _ b hlt]
  exact hbk
 have d0 : w2.cell? ⟨b,0,none⟩ = some (.pointer (some ⟨b,0,none⟩)) := by rw [Lib.cell_of_heap hb2]; rfl
 have d1 : w2.cell? ⟨b,1,none⟩ = some (.slice ao bs.length cap) := by rw [Lib.cell_of_heap hb2]; rfl
 have f1 : w2.frozen? ⟨b,1,none⟩ = false := Lib.frozen_of_heap hb2 1
 obtain ⟨g,cap',rfl⟩ : ∃ g cap',v' = .slice (some ⟨g,0,none⟩) (bs.length + 1) cap' := by
  rcases hown'.2 with ⟨_,h0⟩ | ⟨g,cap',cur,fz,hv,_⟩
  ·omega
  ·exact ⟨g,cap',hv⟩
 have h3 := Lib.BuilderAtF.put (T := 106) (e := 5) hB hb2 (bs' := bs ++ [.int .u8 r]) (by simpa using hown') Tryd.Builder_Extra_169.neB5
 have hb3 := ((hb1.alloc (by have := hb1.size; omega) o).grown hgrow (by have := hb1.size; simp; omega) (fun k hk => (hown.lt k hk).1)).setCell (p := ⟨b,1,none⟩) hB (.slice (some ⟨g,0,none⟩) (bs.length + 1) cap')
 go_wp2
 have e2 : (bs.length : Int) + 1 - (bs.length : Int) = 1 := by omega
 rw [e2]
 go_ret2
 exact ⟨rfl,h3,hb3,((hk1.alloc o).grown hgrow (Lib.ownsRowF_kind (hown.alloc _))).setCell ⟨b,1,none⟩ rfl _⟩
end Go.Proofs.YtcjephdjemapbaaDoor
set_option linter.unusedSimpArgs false
set_option linter.unusedVariables false
namespace Go.Proofs.YtcjephdjemapbaaDoor
open Go.RowKit Go.Shelf
set_option maxRecDepth 1000000
set_option maxHeartbeats 4000000
def MapFn (g : Nat) (lb : Array Value) (f : UInt8 → UInt8) (l : List UInt8) (w : World) : Prop :=
 ∀ (W : World) (x : UInt8),x ∈ l → Below w.heap.size w W → Calls Tryd.prog g (#[.int .i32 x.toNat] ++ lb) W fun e W' => e = .returned (.int .i32 (f x).toNat) ∧ W' = W
theorem mapText (g : Nat) (lb : Array Value) (eg : ∀ args w,(callFunc g args).run Tryd.prog w = .ok (.enter g args) w) (f : UInt8 → UInt8) (s : ByteArray) (w : World) (hs : s.size ≤ 1000)
  (ha : ∀ x ∈ s.data.toList,x.toNat < 128 ∧ (f x).toNat < 128) (hf : MapFn g lb f s.data.toList w) :
  Calls Tryd.prog 80 #[.func (.func g) #[] lb,.string s] w fun e w' => e = .returned (.string ⟨(s.data.toList.map f).toArray⟩) ∧ Below w.heap.size w w' := by
 obtain ⟨ANS,hANS⟩ : ∃ ANS,s.data.toList.map f = ANS := ⟨_,rfl⟩
 rw [hANS]
 have hlen : s.data.toList.length = s.size := by simp
 have mixed : Tryd.prog.follows .mixedOrders = true := by kernel_rfl
 go_enter Tryd.func80,Tryd.ntmps80
 go_wp2
 go_loopg [1] s.size (fun gk s1 wx => s1 = .string s ∧ ∃ pos : Nat,wx.heap[w.heap.size]? = some (.cells #[.pointer none,.slice none 0 0] 106 (0,0)) ∧ wx.heap[w.heap.size + 1]? = some (.stringIter s pos) ∧ Below w.heap.size w wx ∧
  s.data.toList.take pos ++ (s.data.toList.drop pos).map f = ANS ∧ s.size ≤ pos + gk ∧ pos ≤ s.size)
 case atStart =>
  refine ⟨rfl,0, ?_, ?_,((Below.refl _ w).alloc (Nat.le_refl _) _).alloc (by simp) _,by simpa using hANS,by omega,by omega⟩
  ·have h1 := heap_alloc_new w (.cells #[.pointer none,.slice none 0 0] 106)
   exact (Below.heap_alloc _ _ _ (by simp)).trans h1
  ·have := World.iter_heap (w.alloc (.cells #[.pointer none,.slice none 0 0] 106)) s 0
   simpa using this
 case round =>
  obtain ⟨rfl,pos,hfr,hit,hbw,hsp,hfu,hps⟩ := hrel
  by_cases hlt : pos < s.size
  ·obtain ⟨g',rfl⟩ : ∃ g',gk = g' + 1 := ⟨gk - 1,by omega⟩
   have hx : s.data.toList[pos]? = some (s[pos]'hlt) := by
    rw [List.getElem?_eq_getElem (by rw [hlen]; exact hlt)]
    rfl
   obtain ⟨x,hxe⟩ : ∃ x,s[pos]'hlt = x := ⟨_,rfl⟩
   rw [hxe] at hx
   have hmem : x ∈ s.data.toList := List.mem_of_getElem? hx
   obtain ⟨hx1,hx2⟩ := ha x hmem
   have hnx : ∀ ty,(Instr.next (.pointer (some ⟨w.heap.size + 1,0,none⟩)) true ty).run Tryd.prog wr = _ := fun ty => Lib.run_next_ascii_at wr (w.heap.size + 1) s pos ty hit hlt (by rw [hxe]; exact hx1)
   rw [hxe] at hnx
   have hdr : s.data.toList.drop pos = x :: s.data.toList.drop (pos + 1) := by
    rw [List.getElem?_eq_getElem (by rw [hlen]; exact hlt)] at hx
    rw [List.drop_eq_getElem_cons (by rw [hlen]; exact hlt),Option.some.inj hx]
   have hit2 := Lib.iterAt_heap wr (w.heap.size + 1) s pos (pos + 1) hit
   have hbw2 := Lib.below_iterAt hbw (k := w.heap.size + 1) (by omega) s (pos + 1)
   have hfr2 : (wr.iterAt (w.heap.size + 1) s (pos + 1)).heap[w.heap.size]? = _ := (Lib.iterAt_other wr (w.heap.size + 1) w.heap.size s (pos + 1) (by omega)).trans hfr
   obtain ⟨W,hWd⟩ : ∃ W,wr.iterAt (w.heap.size + 1) s (pos + 1) = W := ⟨_,rfl⟩
   rw [hWd] at hnx hit2 hbw2 hfr2
   have cS : Calls Tryd.prog g (#[.int .i32 (x.toNat : Int)] ++ lb) W _ := hf W x hmem hbw2
   obtain ⟨M,hM⟩ : ∃ M,(f x).toNat = M := ⟨_,rfl⟩
   rw [hM] at cS hx2
   obtain ⟨R,hR⟩ : ∃ R,x.toNat = R := ⟨_,rfl⟩
   rw [hR] at cS hx1 hnx
   have hstep : s.data.toList.take pos ++ (f x :: (s.data.toList.drop (pos + 1)).map f) = ANS := by rw [← hsp,hdr,List.map_cons]
   clear hit hbw hfr hWd
   by_cases hc : M = R
   ·subst hc
    have hsame : s.data.toList.take (pos + 1) ++ (s.data.toList.drop (pos + 1)).map f = ANS := by
     have hfx : f x = x := UInt8.toNat_inj.1 (by omega)
     rw [List.take_add_one,hx,← hstep,hfx]
     simp
    have HS : Hid (s.data.toList.take (pos + 1) ++ (s.data.toList.drop (pos + 1)).map f = ANS) := hsame
    have hc2' : ¬ ((M : Int) = 65533) := by omega
    clear hsame hstep hsp hdr
    go_wp2_with (go_at_fn g; go_must (refine cS.mono ?_; rintro e W' ⟨rfl,rfl⟩))
    go_roundg g'
    case measure => omega
    case rel => exact ⟨rfl,pos + 1,hfr2,hit2,hbw2,HS.out,by omega,by omega⟩
   ·have HS : Hid (s.data.toList.take pos ++ (f x :: (s.data.toList.drop (pos + 1)).map f) = ANS) := hstep
    have hc' : ¬ ((M : Int) = (R : Int)) := by omega
    have hc2 : ¬ ((R : Int) = 65533) := by omega
    have hM0 : ¬ ((M : Int) < 0) := by omega
    clear hstep hsp hdr
    go_wp2_with (go_at_fn g; go_must (refine cS.mono ?_; rintro e W' ⟨rfl,rfl⟩))
    have hR1 : Lib.runeLen (R : Int) = 1 := by
     unfold Lib.runeLen
     rw [if_neg (by omega),if_pos (by omega)]
    have cR := Tryd.utf8_RuneLen (R : Int) W'
    rw [hR1] at cR
    refine cR.mono ?_
    rintro e W3 ⟨rfl,rfl⟩
    clear cS cR hnx
    have cG := growBuilder w.heap.size w.heap.size (s.size + 4) W3 (Nat.le_refl _) hfr2 hbw2.size (by omega)
    rw [show ((s.size + 4 : Nat) : Int) = (s.size : Int) + 4 by omega] at cG
    go_wp2_with fail
    refine cG.mono ?_
    rintro e W4 ⟨rfl,h4,b4⟩
    clear cG
    go_wp2_with fail
    have hxs : (s.extract 0 pos).size = pos := by rw [Lib.size_eq,Lib.extract_data,List.length_take,List.length_drop,hlen]; omega
    have hxd : (s.extract 0 pos).data.toList = s.data.toList.take pos := by rw [Lib.extract_data]; simp
    refine (writeStringK w.heap.size w.heap.size [] (s.extract 0 pos) W4 (Lib.IsBuilderF.of (Or.inr h4)) (by rw [hxs]; simp; omega) (Nat.le_trans hbw2.size b4.size)).mono ?_
    rintro e W5 ⟨rfl,h5w,b5,-⟩
    have hl5 : ([] ++ Lib.strCells (s.extract 0 pos)).length = pos := by simp [Lib.strCells_length,hxs]
    go_wp2_with fail
    refine (writeRuneK w.heap.size w.heap.size _ M (by omega) W5 (Or.inr h5w) (by rw [hl5]; omega) (Nat.le_trans hbw2.size (Nat.le_trans b4.size b5.size))).mono ?_
    rintro e W6 ⟨rfl,h6w,b6,-⟩
    have hb6 : Below w.heap.size w W6 := ((hbw2.trans b4).trans b5).trans b6
    have hcells : [] ++ Lib.strCells (s.extract 0 pos) ++ [.int .u8 (M : Int)] = Lib.byteCells (s.data.toList.take pos ++ [f x]) := by
     rw [List.nil_append,Lib.strCells_eq,hxd,Lib.byteCells_append,← hM]
     rfl
    rw [hcells] at h6w
    obtain ⟨g6,cap6,hc6,hcap6⟩ : ∃ g6 cap6,W6.cell? ⟨w.heap.size,1,none⟩ = some (.slice (some ⟨g6,0,none⟩) (Lib.byteCells (s.data.toList.take pos ++ [f x])).length cap6) ∧ 1 ≤ cap6 := by
     obtain ⟨_,v6,hv6,hown6,_⟩ := h6w
     have hln : 1 ≤ (Lib.byteCells (s.data.toList.take pos ++ [f x])).length := by rw [Lib.byteCells_length,List.length_append]; simp
     rcases hown6.2 with ⟨_,h0⟩ | ⟨g6,cap6,_,_,rfl,_,_,_,hnc,_⟩
     ·omega
     ·exact ⟨g6,cap6,by rw [Lib.cell_of_heap hv6]; rfl,by omega⟩
    have hcapz : ¬ ((cap6 : Int) = 0) := by omega
    have hcapb : ((cap6 : Int) == 0) = false := by simp; omega
    have hpk : ((pos : Int) + 1).toNat = pos + 1 := by omega
    clear h4 b4 b5 b6 hfr2 hit2 h5w hbw2
    go_wp2_with fail
    refine (capBuilder w.heap.size _ _ cap6 W6 hc6).mono ?_
    rintro e W6' ⟨rfl,rfl⟩
    obtain ⟨s2,hs2⟩ : ∃ s2,s.extract (pos + 1) s.size = s2 := ⟨_,rfl⟩
    have hl2 : s2.data.toList = s.data.toList.drop (pos + 1) := by
     rw [← hs2,Lib.extract_data,List.take_of_length_le (by rw [List.length_drop,hlen]; omega)]
    have hz2 : s2.size = s.size - (pos + 1) := by rw [Lib.size_eq,hl2,List.length_drop,hlen]
    go_wp2_with fail
    clear hc6 hcapz hcapb hcap6
    go_loopg [] s2.size (fun gk wx => ∃ (p2 : Nat) (acc : List UInt8),Lib.IsBuilderF 106 5 w.heap.size w.heap.size (Lib.byteCells acc) wx ∧ wx.heap[W6'.heap.size]? = some (.stringIter s2 p2) ∧ Below w.heap.size w wx ∧
     acc ++ (s2.data.toList.drop p2).map f = ANS ∧ s2.size ≤ p2 + gk ∧ p2 ≤ s2.size ∧ acc.length ≤ pos + 1 + p2)
    case atStart =>
     refine ⟨0,s.data.toList.take pos ++ [f x],Lib.IsBuilderF.alloc (Or.inr h6w) _,World.iter_heap W6' s2 0,hb6.alloc hb6.size _, ?_,by omega,by omega, ?_⟩
     ·rw [List.drop_zero,hl2,List.append_assoc]; exact HS.out
     ·rw [List.length_append,List.length_take,hlen]; simp; omega
    case round =>
     obtain ⟨p2,acc,hI,hit,hbw,hacc,hfu2,hp2,hal⟩ := hrel
     have hszI : W6'.heap.size < wr.heap.size := (Array.getElem?_eq_some_iff.1 hit).1
     have hBI : w.heap.size ≤ W6'.heap.size := hb6.size
     have hBlt : w.heap.size < W6'.heap.size := h6w.lt
     by_cases hlt2 : p2 < s2.size
     ·obtain ⟨g2,rfl⟩ : ∃ g2,gk = g2 + 1 := ⟨gk - 1,by omega⟩
      have hlen2 : s2.data.toList.length = s2.size := by simp
      have hy : s2.data.toList[p2]? = some (s2[p2]'hlt2) := by
       rw [List.getElem?_eq_getElem (by rw [hlen2]; exact hlt2)]
       rfl
      obtain ⟨y,hye⟩ : ∃ y,s2[p2]'hlt2 = y := ⟨_,rfl⟩
      rw [hye] at hy
      have hmem2 : y ∈ s.data.toList := by
       have h1 := List.mem_of_getElem? hy
       rw [hl2] at h1
       exact List.mem_of_mem_drop h1
      obtain ⟨hy1,hy2⟩ := ha y hmem2
      have hnx : ∀ ty,(Instr.next (.pointer (some ⟨W6'.heap.size,0,none⟩)) true ty).run Tryd.prog wr = _ := fun ty => Lib.run_next_ascii_at wr W6'.heap.size s2 p2 ty hit hlt2 (by rw [hye]; exact hy1)
      rw [hye] at hnx
      have hdr2 : s2.data.toList.drop p2 = y :: s2.data.toList.drop (p2 + 1) := by
       rw [List.getElem?_eq_getElem (by rw [hlen2]; exact hlt2)] at hy
       rw [List.drop_eq_getElem_cons (by rw [hlen2]; exact hlt2),Option.some.inj hy]
      have hI2 := hI.iterAt hit (p2 + 1)
      have hit2 := Lib.iterAt_heap wr W6'.heap.size s2 p2 (p2 + 1) hit
      have hbw2 := Lib.below_iterAt hbw (k := W6'.heap.size) hBI s2 (p2 + 1)
      have hsz2 : w.heap.size ≤ (wr.iterAt W6'.heap.size s2 (p2 + 1)).heap.size := by rw [Lib.iterAt_size]; omega
      obtain ⟨Wa,hWa⟩ : ∃ Wa,wr.iterAt W6'.heap.size s2 (p2 + 1) = Wa := ⟨_,rfl⟩
      rw [hWa] at hnx hI2 hit2 hbw2 hsz2
      have cS2 : Calls Tryd.prog g (#[.int .i32 (y.toNat : Int)] ++ lb) Wa _ := hf Wa y hmem2 hbw2
      obtain ⟨M2,hM2⟩ : ∃ M2,(f y).toNat = M2 := ⟨_,rfl⟩
      rw [hM2] at cS2 hy2
      have HS2 : Hid ((acc ++ [f y]) ++ (s2.data.toList.drop (p2 + 1)).map f = ANS) := by
       show _ = _
       rw [← hacc,hdr2,List.map_cons,List.append_assoc]
       rfl
      have u8w : IntKind.u8.wrap (M2 : Int) = M2 := by rw [IntWalk.u8_in] <;> omega
      have hN0 : ¬ ((M2 : Int) < 0) := by omega
      have h128 : (M2 : Int) < 128 := by omega
      clear hit hbw hI hWa hacc HS hdr2 hy
      go_wp2_with (go_at_fn g; go_must (refine cS2.mono ?_; rintro e W' ⟨rfl,rfl⟩))
      refine (writeByteK w.heap.size w.heap.size _ M2 W' hI2 (by rw [Lib.byteCells_length]; omega) hsz2).mono ?_
      rintro e W7 ⟨rfl,h7,b7,k7⟩
      go_wp2
      go_roundg g2
      case measure => omega
      case rel =>
       refine ⟨p2 + 1,acc ++ [f y],Or.inr ?_,k7.iter hit2 (by omega),hbw2.trans b7,HS2.out,by omega,by omega,by rw [List.length_append]; simp; omega⟩
       rw [Lib.byteCells_append]
       have : Lib.byteCells [f y] = [.int .u8 (M2 : Int)] := by rw [← hM2]; rfl
       rw [this]
       exact h7
     ·obtain rfl : p2 = s2.size := by omega
      have hnx : ∀ ty,(Instr.next (.pointer (some ⟨W6'.heap.size,0,none⟩)) true ty).run Tryd.prog wr = _ := fun ty => Lib.run_next_end_at wr W6'.heap.size s2 s2.size ty hit hlt2
      go_wp2_with fail
      refine (stringK w.heap.size w.heap.size acc wr hI (by omega)).mono ?_
      rintro e W8 ⟨rfl,_,b8⟩
      go_wp2
      go_ret
      refine ⟨?_,hbw.trans b8⟩
      have hlen2 : s2.data.toList.length = s2.size := by simp
      rw [← hlen2,List.drop_length,List.map_nil,List.append_nil] at hacc
      subst hacc
      rfl
  ·obtain rfl : pos = s.size := by omega
   have hnx : ∀ ty,(Instr.next (.pointer (some ⟨w.heap.size + 1,0,none⟩)) true ty).run Tryd.prog wr = _ := fun ty => Lib.run_next_end_at wr (w.heap.size + 1) s s.size ty hit hlt
   have cC := capBuilder w.heap.size none 0 0 wr (by rw [Lib.cell_of_heap hfr]; rfl)
   go_wp2_with fail
   refine cC.mono ?_
   rintro e W' ⟨rfl,rfl⟩
   go_wp2_with fail
   go_ret
   refine ⟨?_,hbw⟩
   rw [← hsp,← hlen,List.drop_length,List.take_length,List.map_nil,List.append_nil]
   rfl
end Go.Proofs.YtcjephdjemapbaaDoor
set_option linter.unusedSimpArgs false
set_option linter.unusedVariables false
namespace Go.Proofs.YtcjephdjemapbaaDoor
open Go.RowKit Go.Shelf Go.Abs Go.Pur
set_option maxRecDepth 1000000
set_option maxHeartbeats 4000000
theorem hidE {p : Prop} (h : p) : Hid p := h
theorem exch_fn (p q : Nat) (a b x : UInt8) (W : World) (c1 : W.cell? ⟨p,0,none⟩ = some (.int .i32 a.toNat)) (c2 : W.cell? ⟨q,0,none⟩ = some (.int .i32 b.toNat)) :
  Calls Tryd.prog 81 #[.int .i32 x.toNat,.pointer (some ⟨p,0,none⟩),.pointer (some ⟨q,0,none⟩)] W fun e W' => e = .returned (.int .i32 (exL a b x).toNat) ∧ W' = W := by
 by_cases h1 : x = a
 ·subst h1
  have e1 : exL x b x = b := by unfold exL; rw [if_pos rfl]
  rw [e1]
  go_enter Tryd.func81,Tryd.ntmps81
  go_wp2
  go_ret
  exact ⟨rfl,rfl⟩
 ·have h1' : ¬ ((x.toNat : Int) = (a.toNat : Int)) := fun e => h1 (UInt8.toNat_inj.1 (by omega))
  by_cases h2 : x = b
  ·subst h2
   have e1 : exL a x x = a := by unfold exL; rw [if_neg h1,if_pos rfl]
   rw [e1]
   go_enter Tryd.func81,Tryd.ntmps81
   go_wp2
   go_ret
   exact ⟨rfl,rfl⟩
  ·have h2' : ¬ ((x.toNat : Int) = (b.toNat : Int)) := fun e => h2 (UInt8.toNat_inj.1 (by omega))
   have e1 : exL a b x = x := by unfold exL; rw [if_neg h1,if_neg h2]
   rw [e1]
   go_enter Tryd.func81,Tryd.ntmps81
   go_wp2
   go_ret
   exact ⟨rfl,rfl⟩
theorem exch_calls (s : ByteArray) (a b : UInt8) (w : World) (hs : s.size ≤ 1000) (ha : a.toNat < 128) (hb : b.toNat < 128) (hx : ∀ x ∈ s.data.toList,x.toNat < 128) :
  Calls Tryd.prog 54 #[.string s,.int .i32 a.toNat,.int .i32 b.toNat] w fun e w' => e = .returned (.string ⟨(s.data.toList.map (exL a b)).toArray⟩) ∧ Below w.heap.size w w' := by
 have c1 : ((w.alloc (.cells #[.int .i32 a.toNat] 21)).alloc (.cells #[.int .i32 b.toNat] 21)).cell? ⟨w.heap.size,0,none⟩ = some (.int .i32 a.toNat) := by
  have h : ((w.alloc (.cells #[.int .i32 a.toNat] 21)).alloc (.cells #[.int .i32 b.toNat] 21)).heap[w.heap.size]? = some (.cells #[.int .i32 a.toNat] 21) := by
   rw [heap_alloc_old _ _ (by simp)]
   exact heap_alloc_new w _
  simp only [World.cell?,h]
  rfl
 have c2 : ((w.alloc (.cells #[.int .i32 a.toNat] 21)).alloc (.cells #[.int .i32 b.toNat] 21)).cell? ⟨w.heap.size + 1,0,none⟩ = some (.int .i32 b.toNat) := by
  have h := heap_alloc_new (w.alloc (.cells #[.int .i32 a.toNat] 21)) (.cells #[.int .i32 b.toNat] 21)
  rw [show (w.alloc (.cells #[.int .i32 a.toNat] 21)).heap.size = w.heap.size + 1 by simp] at h
  simp only [World.cell?,h]
  rfl
 have hsz : ((w.alloc (.cells #[.int .i32 a.toNat] 21)).alloc (.cells #[.int .i32 b.toNat] 21)).heap.size = w.heap.size + 2 := by simp
 have hbel : Below w.heap.size w ((w.alloc (.cells #[.int .i32 a.toNat] 21)).alloc (.cells #[.int .i32 b.toNat] 21)) := ((Below.refl _ w).alloc (Nat.le_refl _) _).alloc (by simp) _
 obtain ⟨w2,hw2⟩ : ∃ w2,(w.alloc (.cells #[.int .i32 (a.toNat : Int)] 21)).alloc (.cells #[.int .i32 (b.toNat : Int)] 21) = w2 := ⟨_,rfl⟩
 rw [hw2] at c1 c2 hsz hbel
 have key := mapText 81 #[.pointer (some ⟨w.heap.size,0,none⟩),.pointer (some ⟨w.heap.size + 1,0,none⟩)] (enters_of Tryd.func81 (by kernel_rfl) rfl) (exL a b) s w2 hs (fun x h => ⟨hx x h,by
  unfold exL
  split
  ·exact hb
  ·split
   ·exact ha
   ·exact hx x h⟩) (fun W x hm hB => by
  refine exch_fn w.heap.size (w.heap.size + 1) a b x W ?_ ?_
  ·rw [hB.cell (p := ⟨w.heap.size,0,none⟩) (show w.heap.size < w2.heap.size by omega)]; exact c1
  ·rw [hB.cell (p := ⟨w.heap.size + 1,0,none⟩) (show w.heap.size + 1 < w2.heap.size by omega)]; exact c2)
 have Key := hidE key
 clear key
 go_enter Tryd.func54,Tryd.ntmps54
 go_wp2_with fail
 refine Key.out.mono ?_
 rintro e w3 ⟨rfl,h3⟩
 have H3 := hidE (hbel.trans (h3.mono (show w.heap.size ≤ w2.heap.size by omega)))
 clear h3 Key
 go_wp2
 go_ret
 exact ⟨rfl,H3.out⟩
theorem ext_ok (g : FuncId) (hy : Y0.yes g = true) : FnOK Tryd.prog Y0 g := by
 have h : Nat.beq g 54 = true := hy
 cases Nat.eq_of_beq_eq_true h
 refine fnOK_lib e54 rfl (by kernel_rfl) (fun xs rs he m h w hR args hd => ?_)
 unfold e54 at he
 split at he
 ·rename_i s a b
  split at he
  ·rename_i h1 h2 h3 h4
   cases he
   have h2' : a < 128 := Nat.le_of_ble_eq_true h2
   have h3' : b < 128 := Nat.le_of_ble_eq_true h3
   have ea : (a.toUInt8).toNat = a := by simp only [Nat.toUInt8,UInt8.toNat_ofNat']; omega
   have eb : (b.toUInt8).toNat = b := by simp only [Nat.toUInt8,UInt8.toNat_ofNat']; omega
   cases hd with
   | cons v a' vs ks k1 ht =>
   cases ht with
   | cons v2 a2 vs2 ks2 k2 ht2 =>
   cases ht2 with
   | cons v3 a3 vs3 ks3 k3 ht3 =>
   cases ht3; cases k1; cases k2; cases k3
   have key := exch_calls s a.toUInt8 b.toUInt8 w (Nat.le_of_ble_eq_true h1) (by omega) (by omega) (fun x hx => Nat.le_of_ble_eq_true (List.all_eq_true.1 h4 x hx))
   rw [ea,eb] at key
   exact key.mono fun e w' ⟨h1,h2⟩ => ⟨[.string _],h1,h2,.cons _ _ _ _ (.p _) .nil⟩
  ·cases he
 ·cases he
end Go.Proofs.YtcjephdjemapbaaDoor
set_option linter.unusedSimpArgs false
set_option linter.unusedVariables false
set_option linter.unusedSectionVars false
namespace Go.Proofs.YtcjephdjemapbaaDoor
open Go.Abs Go.Pur Go.ChangeShapes Go.WideShapes Go.ChangeAt Go.RowKit
set_option maxRecDepth 100000
theorem ok : progOK Tryd.prog = true := by kernel_rfl
theorem laidOut : laidOutB Tryd.prog = true := by kernel_rfl
theorem grOf (l : List Blk) : GR Tryd.prog Y0 (C0 Tryd.prog (tabs ++ l).length) (heapOf (tabs ++ l)) := by
 have key : ∀ (zs : List Int) (g e : Nat),tabs[g]? = some (tabBlk .u8 zs e) → g < 2 → g < Tryd.prog.globals.size ∧ (C0 Tryd.prog (tabs ++ l).length).fz g ∧ ∃ B,(heapOf (tabs ++ l)).get g = some B ∧ (zs.map fun n => PV.v (.int .u8 n)).length ≤ B.cells.length ∧ ∀ i,i < (zs.map fun n => PV.v (.int .u8 n)).length → VR (C0 Tryd.prog (tabs ++ l).length) (heapOf (tabs ++ l)) none ((zs.map fun n => PV.v (.int .u8 n)).getD i .dead) (B.cells.getD i undef) := by
  intro zs g e hg h2
  refine ⟨by rw [nglob]; omega,by show g < _; simp [tabs]; omega,tabBlk .u8 zs e,by rw [heapOf_get,List.getElem?_append_left (by simp [tabs]; omega),hg],by simp [tabBlk],fun i hi => ?_⟩
  have hi' : i < zs.length := by simpa using hi
  simp [tabBlk,List.getD_eq_getElem?_getD,hi']
  exact .v _ _ rfl (fun _ _ e => by cases e)
 intro g cs hg
 match g,hg with
 | 0,hg => cases hg; exact key tab32 0 124 rfl (by decide)
 | 1,hg => cases hg; exact key tab64 1 125 rfl (by decide)
section
variable {H : Type} {enc : TypeId × Value → H} {W : World} {r : Reach} {b0 : Nat}
end
end Go.Proofs.YtcjephdjemapbaaDoor
set_option linter.unusedSimpArgs false
set_option linter.unusedVariables false
set_option linter.unusedSectionVars false
namespace Go.Proofs.YtcjephdjemapbaaDoor
open Go.Abs Go.Pur Go.ChangeShapes Go.WideShapes Go.ChangeAt Go.RowKit
set_option maxRecDepth 100000
section
variable {H : Type} {enc : TypeId × Value → H} {W : World} {r : Reach} {b0 : Nat}
theorem val_u8 {v : Value} {d : DataW H} {ps : List MemPlace} (hv : Value.okWide Tryd.prog W r b0 5 v) (h : DataW.Trod enc Tryd.prog W 0 (fun _ => true) true 5 v d ps) : ∃ n : UInt8,v = .int .u8 n.toNat := by
 obtain ⟨z,rfl,_,h2⟩ := arg_int Tryd.underlying5 hv h
 have h3 : 0 ≤ z ∧ z ≤ 255 := by simpa [Lit.wf,IntKind.min,IntKind.max,IntKind.has,IntKind.signed,IntKind.bits] using h2
 refine ⟨UInt8.ofNat z.toNat, ?_⟩
 congr 1
 rw [UInt8.toNat_ofNat']
 omega
end
end Go.Proofs.YtcjephdjemapbaaDoor
set_option linter.unusedVariables false
set_option linter.unusedSimpArgs false
namespace Go.Pur
open Go.Abs
def fq_move (P : Program) (Y : Pol) (f : FuncId) (x : Operand) (σ : St) : Option PV := pev Y f σ x
def fq_pick (P : Program) (Y : Pol) (f : FuncId) (c : Operand) (x : Operand) (y : Operand) (σ : St) : Option PV := match pev Y f σ c with
  | some (.v (.bool true)) => match evSafe y with
   | true => pev Y f σ x
   | false => none
  | some (.v (.bool false)) => match evSafe x with
   | true => pev Y f σ y
   | false => none
  | _ => none
def fq_nilCheck (P : Program) (Y : Pol) (f : FuncId) (x : Operand) (σ : St) : Option PV := match pev Y f σ x with
  | some (.p b o) => some (.p b o)
  | some (.r k cs) => some (.r k cs)
  | some (.f g as1 bs) => some (.f g as1 bs)
  | _ => none
def fq_binOp (P : Program) (Y : Pol) (f : FuncId) (op : BinOp) (t : TypeId) (x : Operand) (y : Operand) (σ : St) : Option PV := match pev Y f σ x,pev Y f σ y with
  | some a,some b => pbin P op t x y a b
  | _,_ => none
def fq_unOp (P : Program) (Y : Pol) (f : FuncId) (op : UnOp) (x : Operand) (σ : St) : Option PV := match pev Y f σ x with
  | some (.v a) => match prunP P (Op.unary op a) with
   | some r => pvOf r
   | none => none
  | _ => none
def fq_convert (P : Program) (Y : Pol) (f : FuncId) (src : TypeId) (dst : TypeId) (x : Operand) (σ : St) : Option PV := match pev Y f σ x with
  | some (.v a) => match prunP P (convert src dst a) with
   | some r => pvOf r
   | none => none
  | _ => none
def fq_slice (P : Program) (Y : Pol) (f : FuncId) (t : TypeId) (x : Operand) (lo : Option Operand) (hi : Option Operand) (mx : Option Operand) (σ : St) : Option PV := match pev Y f σ x,optPlain Y f σ lo,optPlain Y f σ hi,optPlain Y f σ mx with
  | some v,some l,some h,some m => pqSlice P t v l h m
  | _,_,_,_ => none
def fq_fieldAddr (P : Program) (Y : Pol) (f : FuncId) (s : TypeId) (x : Operand) (fd : Nat) (σ : St) : Option PV := match pev Y f σ x with
  | some v => fldAddr P s v fd
  | none => none
def fq_field (P : Program) (Y : Pol) (f : FuncId) (s : TypeId) (x : Operand) (fd : Nat) (σ : St) : Option PV := match pev Y f σ x with
  | some v => pfield P s v fd
  | none => none
def fq_indexAddr (P : Program) (Y : Pol) (f : FuncId) (t : TypeId) (x : Operand) (ix : Operand) (σ : St) : Option PV := match pev Y f σ x,pev Y f σ ix with
  | some v,some (.v i) => idxAddr P t v i
  | _,_ => none
def fq_index (P : Program) (Y : Pol) (f : FuncId) (t : TypeId) (x : Operand) (ix : Operand) (σ : St) : Option PV := match pev Y f σ x,pev Y f σ ix with
  | some v,some (.v i) => pqIndex P t v i
  | _,_ => none
def fq_extract (P : Program) (Y : Pol) (f : FuncId) (x : Operand) (ix : Nat) (σ : St) : Option PV := match pev Y f σ x with
  | some (.t cs) => cs[ix]?
  | _ => none
def fq_len (P : Program) (Y : Pol) (f : FuncId) (args : Array Operand) (argTypes : Array TypeId) (σ : St) : Option PV := match args.toList,argTypes[0]? with
  | [x],some t => match pev Y f σ x with
   | some v => plen P t v
   | none => none
  | _,_ => none
def fq_max (P : Program) (Y : Pol) (f : FuncId) (args : Array Operand) (argTypes : Array TypeId) (σ : St) : Option PV := match pevs Y f σ args.toList with
  | some vs => match pplains vs with
   | some xs => match prunP P (Builtin.max_ argTypes 0 xs.toArray) with
    | some r => pvOf r
    | none => none
   | none => none
  | none => none
def fq_min (P : Program) (Y : Pol) (f : FuncId) (args : Array Operand) (argTypes : Array TypeId) (σ : St) : Option PV := match pevs Y f σ args.toList with
  | some vs => match pplains vs with
   | some xs => match prunP P (Builtin.min_ argTypes 0 xs.toArray) with
    | some r => pvOf r
    | none => none
   | none => none
  | none => none
def fq_call (P : Program) (Y : Pol) (f : FuncId) (b : Builtin) (args : Array Operand) (argTypes : Array TypeId) (σ : St) : Option PV :=
 match b with
 | .len => fq_len P Y f args argTypes σ
 | .max => fq_max P Y f args argTypes σ
 | .min => fq_min P Y f args argTypes σ
 | _ => none
def fq (P : Program) (Y : Pol) (f : FuncId) (op : Op) (σ : St) : Option PV :=
 match op with
 | .move x => fq_move P Y f x σ
 | .assign x => fq_move P Y f x σ
 | .pick c x y => fq_pick P Y f c x y σ
 | .nilCheck x => fq_nilCheck P Y f x σ
 | .binOp op t x y _ => fq_binOp P Y f op t x y σ
 | .unOp op _ x => fq_unOp P Y f op x σ
 | .convert src dst x => fq_convert P Y f src dst x σ
 | .slice t x lo hi mx => fq_slice P Y f t x lo hi mx σ
 | .fieldAddr s x fd => fq_fieldAddr P Y f s x fd σ
 | .field s x fd => fq_field P Y f s x fd σ
 | .indexAddr t x ix => fq_indexAddr P Y f t x ix σ
 | .index t x ix => fq_index P Y f t x ix σ
 | .extract x ix => fq_extract P Y f x ix σ
 | .call c => match c.callee with
  | .builtin b => fq_call P Y f b c.args c.argTypes σ
  | _ => none
 | _ => none
def fo_load (P : Program) (Y : Pol) (f : FuncId) (call : PCallF) (draw : Dr) (t : TypeId) (x : Operand) (σ : St) : Option (PV × St) := match pev Y f σ x with
  | some v => match mayLoad draw v || freeDr draw with
   | true => pload P t v σ
   | false => none
  | none => none
def fo_build (P : Program) (Y : Pol) (f : FuncId) (call : PCallF) (draw : Dr) (t : TypeId) (parts : Array (Nat × Operand)) (σ : St) : Option (PV × St) := match pevParts Y f σ parts.toList,zeroOf P t with
  | some (is,vs),some z => match hows Y f (Y.part f) vs σ with
   | some (vs0,σ0) => match stors Y f [] vs0 σ0,pvCells z,partsOf P t with
    | some (vs',σ'),some zc,some pt => match pfill (partAt pt) (zipParts is vs') zc with
     | some cs => some (.a cs,σ')
     | none => none
    | _,_,_ => none
   | none => none
  | _,_ => none
def fo_makeInterface (P : Program) (Y : Pol) (f : FuncId) (call : PCallF) (draw : Dr) (t : TypeId) (x : Operand) (σ : St) : Option (PV × St) := match pev Y f σ x,P.underlying t with
  | some _,some (.interface _) => none
  | some v,some _ => match stor Y f v σ with
   | some (v',σ',_) => some (.i t v',σ')
   | none => none
  | _,_ => none
def fo_makeFunc (P : Program) (Y : Pol) (f : FuncId) (call : PCallF) (draw : Dr) (fn : Fn) (first : Array Operand) (captured : Array Operand) (σ : St) : Option (PV × St) := match fn,pevs Y f σ first.toList,pevs Y f σ captured.toList with
  | .func g,some as1,some bs => match stors Y f [] (as1 ++ bs) σ with
   | some (l,σ') => some (.f g (l.take as1.length) (l.drop as1.length),σ')
   | none => none
  | _,_,_ => none
def fo_box (P : Program) (Y : Pol) (f : FuncId) (call : PCallF) (draw : Dr) (e : TypeId) (x : Operand) (σ : St) : Option (PV × St) := match pev Y f σ x with
  | some v => match moved Y f v σ with
   | some (v',σ') => match refsTo σ'.hp.length v' with
    | true => some (pnewBlk (pcells v') σ')
    | false => none
   | none => none
  | none => none
def fo_alloc (P : Program) (Y : Pol) (f : FuncId) (call : PCallF) (draw : Dr) (e : TypeId) (σ : St) : Option (PV × St) := match zeroOf P e with
  | some z => match pvCells z with
   | some zc => some (pnewBlk zc σ)
   | none => none
  | none => none
def fo_buildSlice (P : Program) (Y : Pol) (f : FuncId) (call : PCallF) (draw : Dr) (t : TypeId) (n : Nat) (parts : Array (Nat × Operand)) (σ : St) : Option (PV × St) := match pevParts Y f σ parts.toList,shapeOf P t with
  | some (is,vs),some (.slice e sz) => match zeroOf P e,stors Y f [] vs σ with
   | some z,some (vs',σ') => match Nat.ble (n * (sz + 1)) limit24 && Nat.beq (vcells z).length sz,pvCells z with
    | true,some zc => match pfill (fun i => some (i * sz,sz)) (zipParts is vs') (reps (zc.map ownFz) n) with
     | some cs => match cs.all cellOK with
      | true => some (.l .fz .full n cs,σ')
      | false => none
     | none => none
    | _,_ => none
   | _,_ => none
  | _,_ => none
def fo_makeSlice (P : Program) (Y : Pol) (f : FuncId) (call : PCallF) (draw : Dr) (t : TypeId) (l : Operand) (c : Operand) (σ : St) : Option (PV × St) := match pev Y f σ l,pev Y f σ c,shapeOf P t with
  | some (.v (.int _ (.ofNat l))),some (.v (.int _ (.ofNat c))),some (.slice e sz) => match zeroOf P e,byOf P e with
   | some z,some by_ => match Nat.ble l c && Nat.ble (c * (by_ + sz + 1)) limit && Nat.beq (vcells z).length sz,pvCells z with
    | true,some zc => some (.s σ.hp.length 0 l c,{ σ with hp := σ.hp ++ [some (reps zc c)] })
    | _,_ => none
   | _,_ => none
  | _,_,_ => none
def fo_store (P : Program) (Y : Pol) (f : FuncId) (call : PCallF) (draw : Dr) (t : TypeId) (x : Operand) (y : Operand) (σ : St) : Option (PV × St) := match pev Y f σ x,pev Y f σ y,szOf P t with
  | some (.p b off),some v,some n => match moved Y f v σ with
   | some (v',σ') => match Nat.beq (pcells v').length n && refsTo b v' && (pcells v').all one && (mayTurn draw || mayStore Y f σ b draw) with
    | true => match pput b off (pcells v') σ' with
     | some σ'' => some (.dead,σ'')
     | none => none
    | false => none
   | none => none
  | _,_,_ => none
def fo_append (P : Program) (Y : Pol) (f : FuncId) (call : PCallF) (draw : Dr) (args : Array Operand) (argTypes : Array TypeId) (σ : St) : Option (PV × St) := match pevs Y f σ args.toList,argTypes.toList with
  | some [s,x],[t,tx] => match shapeOf P t,psrcLen x,srcFits P tx x with
   | some (.slice e sz),some n,true => match zeroOf P e,byOf P e,psrcLen s with
    | some z,some by_,some m => match Nat.beq n 0 with
     | true => match isList s with
      | true => some (s,σ)
      | false => none
     | false => match psrc sz n x σ with
      | some new => match Nat.ble ((m + n) * (by_ + sz + 1)) limit && Nat.beq (vcells z).length sz && (!(elder Y f s) || mayTurn draw) with
       | true => pgrow Y f sz s n new σ
       | false => none
      | none => none
    | _,_,_ => none
   | _,_,_ => none
  | _,_ => none
def fo_copy (P : Program) (Y : Pol) (f : FuncId) (call : PCallF) (draw : Dr) (args : Array Operand) (argTypes : Array TypeId) (σ : St) : Option (PV × St) := match pevs Y f σ args.toList,argTypes.toList with
  | some [d,x],[t,tx] => match shapeOf P t,psrcLen x,srcFits P tx x,d with
   | some (.slice e sz),some n,true,.s b off m cap => match Nat.beq (Nat.min n m) 0 with
    | true => some (.v (.int .i64 0),σ)
    | false => match psrc sz (Nat.min n m) x σ with
     | some cs => match pput b off cs σ with
      | some σ' => match mayTurn draw with
       | true => some (.v (.int .i64 (Nat.min n m : Nat)),σ')
       | false => none
      | none => none
     | none => none
   | _,_,_,_ => none
  | _,_ => none
def fo_callv (P : Program) (Y : Pol) (f : FuncId) (call : PCallF) (draw : Dr) (fo : Operand) (args : Array Operand) (σ : St) : Option (PV × St) := pcallOp Y f call draw fo args.toList σ
def fo_range (P : Program) (Y : Pol) (f : FuncId) (call : PCallF) (draw : Dr) (t : TypeId) (x : Operand) (σ : St) : Option (PV × St) := match pev Y f σ x,P.underlying t with
  | some (.v (.string s)),some .string => some (.it s 0,σ)
  | _,_ => none
def fo_next (P : Program) (Y : Pol) (f : FuncId) (call : PCallF) (draw : Dr) (x : Operand) (isStr : Bool) (σ : St) : Option (PV × St) := match x,isStr with
  | .tmp t,true => match look Y f σ t with
   | some (.it s pos) => match Nat.blt pos s.size with
    | true => match mayTurn draw with
     | true => some (.t [.v (.bool true),.v (goInt pos),.v (.int .i32 (Utf8.decode s pos).1)],setPl Y f (.it s (pos + (Utf8.decode s pos).2)) σ (.tmp t))
     | false => none
    | false => some (.t [.v (.bool false)],σ)
   | _ => none
  | _,_ => none
def fo_convert (P : Program) (Y : Pol) (f : FuncId) (call : PCallF) (draw : Dr) (src : TypeId) (dst : TypeId) (x : Operand) (σ : St) : Option (PV × St) := match fq P Y f (.convert src dst x) σ with
  | some v => some (v,σ)
  | none => match pbytes P Y f draw src dst x σ with
   | some v => some (v,σ)
   | none => none
def fo_quiet (P : Program) (Y : Pol) (f : FuncId) (op : Op) (σ : St) : Option (PV × St) :=
 match fq P Y f op σ with
 | some v => some (v,σ)
 | none => none
def fo_call (P : Program) (Y : Pol) (f : FuncId) (call : PCallF) (draw : Dr) (c : Call) (σ : St) : Option (PV × St) :=
 match c.callee with
 | .value fo => fo_callv P Y f call draw fo c.args σ
 | .builtin b => match b with
  | .append => fo_append P Y f call draw c.args c.argTypes σ
  | .copy => fo_copy P Y f call draw c.args c.argTypes σ
  | .delete => poper P Y f call draw (.call c) σ
  | .clear => poper P Y f call draw (.call c) σ
  | .len => match fq P Y f (.call c) σ with
   | some v => some (v,σ)
   | none => poper P Y f call draw (.call c) σ
  | _ => fo_quiet P Y f (.call c) σ
 | _ => none
def fo (P : Program) (Y : Pol) (f : FuncId) (call : PCallF) (draw : Dr) (op : Op) (σ : St) : Option (PV × St) :=
 match op with
 | .makeMap t r => poper P Y f call draw (.makeMap t r) σ
 | .mapUpdate t m k x => poper P Y f call draw (.mapUpdate t m k x) σ
 | .insert t m k x => poper P Y f call draw (.insert t m k x) σ
 | .lookup t m k ok => poper P Y f call draw (.lookup t m k ok) σ
 | .mapEntry t m k => poper P Y f call draw (.mapEntry t m k) σ
 | .entryStore t m s x => poper P Y f call draw (.entryStore t m s x) σ
 | .load t x => fo_load P Y f call draw t x σ
 | .build t parts => fo_build P Y f call draw t parts σ
 | .makeInterface t x => fo_makeInterface P Y f call draw t x σ
 | .makeFunc fn first captured => fo_makeFunc P Y f call draw fn first captured σ
 | .box e x => fo_box P Y f call draw e x σ
 | .alloc e => fo_alloc P Y f call draw e σ
 | .buildSlice t n parts => fo_buildSlice P Y f call draw t n parts σ
 | .makeSlice t l c => fo_makeSlice P Y f call draw t l c σ
 | .store t x y => fo_store P Y f call draw t x y σ
 | .range t x => fo_range P Y f call draw t x σ
 | .next x isStr => fo_next P Y f call draw x isStr σ
 | .convert src dst x => fo_convert P Y f call draw src dst x σ
 | .call c => fo_call P Y f call draw c σ
 | op => fo_quiet P Y f op σ
end Go.Pur
namespace Go.Pur
open Go.Abs
section
variable {P : Program} {Y : Pol} {f : FuncId} {nt : Nat} {O : PCallF}
def kO (code : PCodeF) : List Fm → St → Option (AExit × St)
 | [],σ => some (.normal,σ)
 | .c c :: k,σ => match code c σ with
  | some (.normal,σ') => kO code k σ'
  | some (.exit j,σ') => kx j k σ'
  | r => r
 | .blk _ :: k,σ => kO code k σ
 | .lp b :: k,σ => match code (.loop b) σ with
  | some (.normal,σ') => kO code k σ'
  | some (.exit j,σ') => kx j k σ'
  | r => r
where kx (j : Nat) : List Fm → St → Option (AExit × St)
 | [],σ => some (.exit j,σ)
 | .c _ :: k,σ => kx j k σ
 | .blk id :: k,σ => match Nat.beq j id with
  | true => kO code k σ
  | false => kx j k σ
 | .lp _ :: k,σ => kx j k σ
mutual
theorem kO_EK {code : PCodeF} (hc : ∀ x σ r,code x σ = some r → EC P Y f nt x σ = some r) : ∀ {k : List Fm} {σ : St} {r : AExit × St},kO code k σ = some r → EK P Y f nt k σ = some r
 | [],σ,r,h => by simpa only [kO,EK] using h
 | .c c :: k,σ,r,h => by
  simp only [kO] at h
  simp only [EK]
  split at h
  ·rename_i σ' h1; rw [hc _ _ _ h1]; exact kO_EK hc h
  ·rename_i j σ' h1; rw [hc _ _ _ h1]; exact kx_EK hc h
  ·rename_i h1 h2
   rw [hc _ _ _ h]
   obtain ⟨x,σ'⟩ := r
   cases x with
   | normal => exact (h1 _ h).elim
   | exit j => exact (h2 _ _ h).elim
   | _ => rfl
 | .blk id :: k,σ,r,h => by
  simp only [kO] at h
  simp only [EK]
  exact kO_EK hc h
 | .lp b :: k,σ,r,h => by
  simp only [kO] at h
  simp only [EK]
  split at h
  ·rename_i σ' h1; rw [hc _ _ _ h1]; exact kO_EK hc h
  ·rename_i j σ' h1; rw [hc _ _ _ h1]; exact kx_EK hc h
  ·rename_i h1 h2
   rw [hc _ _ _ h]
   obtain ⟨x,σ'⟩ := r
   cases x with
   | normal => exact (h1 _ h).elim
   | exit j => exact (h2 _ _ h).elim
   | _ => rfl
theorem kx_EK {code : PCodeF} (hc : ∀ x σ r,code x σ = some r → EC P Y f nt x σ = some r) {j : Nat} : ∀ {k : List Fm} {σ : St} {r : AExit × St},kO.kx code j k σ = some r → EK.ex P Y f nt j k σ = some r
 | [],σ,r,h => by simpa only [kO.kx,EK.ex] using h
 | .c _ :: k,σ,r,h => by
  simp only [kO.kx] at h
  simp only [EK.ex]
  exact kx_EK hc h
 | .blk id :: k,σ,r,h => by
  simp only [kO.kx] at h
  simp only [EK.ex]
  split at h
  ·rename_i e; rw [e]; exact kO_EK hc h
  ·rename_i e; rw [e]; exact kx_EK hc h
 | .lp _ :: k,σ,r,h => by
  simp only [kO.kx] at h
  simp only [EK.ex]
  exact kx_EK hc h
end
end
section
variable {P : Program} {t : TypeId} {x y : Operand} {k : IntKind}
theorem abinS_str {op : BinOp} {a b : ByteArray} {r : Value} (h1 : prun P (do eqGuard op t x y (.string a) (.string b); binOp op t (.string a) (.string b)) = some r) (h2 : plain r = true) : abin P op t x y (.string a) (.string b) = some r := by
 have h3 : abinS P op t x y (.string a) (.string b) = prunP P (do eqGuard op t x y (.string a) (.string b); binOp op t (.string a) (.string b)) := rfl
 have h0 : intFast op (.string a) (.string b) = none := rfl
 unfold abin
 rw [h0]
 simp only []
 rw [h3]
 unfold prunP
 rw [h1]
 simp only [h2]
theorem abin_rem {m n : Int} (hn : n ≠ 0) : abin P .rem t x y (.int k m) (.int k n) = some (.int k (m.tmod n)) :=
 abinS_of (fast_none fun _ _ _ => rfl) (by simp [eqGuard,binOp,Op.intDiv,hn]; rfl) rfl
theorem abin_quo {m n : Int} (hn : n ≠ 0) : abin P .quo t x y (.int k m) (.int k n) = some (.int k (k.wrap (m.tdiv n))) :=
 abinS_of (fast_none fun _ _ _ => rfl) (by simp [eqGuard,binOp,Op.intDiv,hn]; rfl) rfl
theorem abin_sadd {a b : ByteArray} (h : a.size + b.size ≤ 9223372036854775807) : abin P .add t x y (.string a) (.string b) = some (.string (a ++ b)) :=
 abinS_str (by simp [eqGuard,binOp,Op.stringOp,show ¬ (9223372036854775807 : Int) < a.size + b.size by omega]; rfl) rfl
theorem bytes_beq {a b : ByteArray} : (a.toList == b.toList) = decide (a = b) := by
 rw [Bool.eq_iff_iff]
 simp only [beq_iff_eq,decide_eq_true_eq]
 refine ⟨fun h => ?_,fun h => by rw [h]⟩
 rw [ByteArray.toList_eq,ByteArray.toList_eq] at h
 obtain ⟨⟨l⟩⟩ := a
 obtain ⟨⟨m⟩⟩ := b
 simp at h
 rw [h]
theorem abin_seql {a b : ByteArray} : abin P .eql t x y (.string a) (.string b) = some (.bool (decide (a = b))) :=
 abinS_str (by simp [eqGuard,binOp,Op.stringOp,bytes_beq]; rfl) rfl
theorem abin_sneq {a b : ByteArray} : abin P .neq t x y (.string a) (.string b) = some (.bool (!decide (a = b))) :=
 abinS_str (by simp [eqGuard,binOp,Op.stringOp,bytes_beq]; rfl) rfl
end
end Go.Pur
set_option linter.unusedSimpArgs false
set_option linter.unusedVariables false
namespace Go.Pur
open Go.Abs
set_option linter.unusedSimpArgs false
section
variable {P : Program} {t : TypeId}
theorem prun_bnd {α β : Type} (x : Sem α) (f : α → Sem β) : prun P (x >>= f) = match prun P x with
  | some a => prun P (f a)
  | none => none := by
 show prun P (x.bind f) = _
 induction x with
 | pure a => rfl
 | program k ih => exact ih P
 | mark _ k ih => exact ih
 | _ => rfl
theorem prun_pure {α : Type} (a : α) : prun P (pure a) = some a := rfl
theorem prun_map {α β : Type} (g : α → β) (x : Sem α) : prun P (g <$> x) = (prun P x).map g := by
 show prun P (x.bind fun a => pure (g a)) = _
 rw [show x.bind (fun a => pure (g a)) = (x >>= fun a => pure (g a)) from rfl,prun_bnd]
 cases prun P x <;> rfl
theorem str_index (ht : P.underlying t = some .string) {s : ByteArray} {k : IntKind} {i : Nat} (h : i < s.size) : prunP P (Instr.index t (.string s) (.int k i)) = some (.int .u8 (s[i]'h).toNat) := by
 have : s[i]? = some (s[i]'h) := by simp [h]
 unfold prunP Instr.index
 simp [prun_bnd,prun_pure,prun_und ht,asIntOf,this,plain]
theorem prun_bound {k : IntKind} {a y : Nat} {c : BoundsCode} (h : a ≤ y) : prun P (Instr.sliceBound (.int k a) y c) = some a := by
 have h' : (a : Int) ≤ y := by omega
 unfold Instr.sliceBound
 simp [prun_bnd,prun_pure,asIntOf,h,h']
theorem str_from (ht : P.underlying t = some .string) {s : ByteArray} {k : IntKind} {a : Nat} (h1 : a ≤ s.size) : prunP P (Instr.slice t (.string s) (some (.int k a)) none none) = some (.string (s.extract a s.size)) := by
 unfold prunP Instr.slice Instr.sliceBounds
 simp [prun_bnd,prun_pure,prun_map,prun_und ht,prun_bound h1,plain]
theorem str_to (ht : P.underlying t = some .string) {s : ByteArray} {k : IntKind} {b : Nat} (h1 : b ≤ s.size) : prunP P (Instr.slice t (.string s) none (some (.int k b)) none) = some (.string (s.extract 0 b)) := by
 unfold prunP Instr.slice Instr.sliceBounds
 simp [prun_bnd,prun_pure,prun_map,prun_und ht,prun_bound h1,plain]
end
end Go.Pur
set_option linter.unusedSimpArgs false
set_option linter.unusedVariables false
namespace Go.Pur
open Go.Abs
abbrev uv (n : Nat) : PV := .v (.int .u8 n)
abbrev sv (s : ByteArray) : PV := .v (.string s)
abbrev bs (l : List UInt8) : ByteArray := ⟨l.toArray⟩
theorem bs_size {l : List UInt8} : (bs l).size = l.length := by simp [ByteArray.size]
theorem bs_get {l : List UInt8} {i : Nat} (h : i < (bs l).size) : (bs l)[i]'h = l[i]'(by rwa [bs_size] at h) := rfl
theorem wrapUC {z : Int} (h : 0 ≤ z ∧ z < 18446744073709551616) : IntKind.u64.wrap z = z := by
 simp [IntKind.wrap,IntKind.signed,IntKind.bits]
 omega
theorem beqT {a b : Nat} (h : a = b) : Nat.beq a b = true := by rw [nbeq]; exact decide_eq_true h
theorem beqF {a b : Nat} (h : a ≠ b) : Nat.beq a b = false := by rw [nbeq]; exact decide_eq_false h
end Go.Pur
set_option linter.unusedSimpArgs false
set_option linter.unusedVariables false
set_option linter.unusedSectionVars false
namespace Go.Pur
open Go.Abs
theorem bind_ok {α β : Type} {x : Option α} {f : α → Option β} {r : β} (h : x.bind f = some r) : ∃ a,x = some a ∧ f a = some r := by
 cases x with
 | none => cases h
 | some a => exact ⟨a,rfl,h⟩
theorem bindT {α β : Type} {a : α} {f : α → Option β} {r : β} (h : (some a).bind f = some r) : ∃ x,a = x ∧ f x = some r := ⟨a,rfl,h⟩
theorem inj_ok {α : Type} {a b : α} (h : some a = some b) : a = b := Option.some.inj h
abbrev kv (k : IntKind) (z : Int) : PV := .v (.int k z)
def lv (p : Ck × List Int) : PV := .l .fz p.1 p.2.length (p.2.map iv)
def tv (l : List UInt8) : PV := .v (.string (bs l))
def rows (l : List (Int × Int)) : List PV := l.flatMap fun p => [iv p.1,iv p.2]
theorem rows_len : ∀ {l : List (Int × Int)},(rows l).length = l.length * 2
 | [] => rfl
 | p :: l => by
  have := rows_len (l := l)
  simp only [rows,List.flatMap_cons,List.length_append,List.length_cons,List.length_nil] at this ⊢
  omega
theorem rows_app {l m : List (Int × Int)} : rows (l ++ m) = rows l ++ rows m := List.flatMap_append
theorem rows_nil : rows [] = [] := rfl
theorem rows_cons {p : Int × Int} {l : List (Int × Int)} : rows (p :: l) = iv p.1 :: iv p.2 :: rows l := rfl
section
variable {α : Type} {l l' r x : List α} {v y : α} {i z : Int} {n k : Nat} {f : α → PV}
def gI (l : List α) (i : Int) : Option α := match i with
 | .ofNat k => l[k]?
 | .negSucc _ => none
theorem gI_ok (hn : l.length = n) (h : gI l i = some y) : (∀ k,intIn n (.int k i) = some i.toNat) ∧ i.toNat < n ∧ Nat.ble (i.toNat + 1) n = true ∧ l[i.toNat]? = some y ∧ i = (i.toNat : Int) := by
 cases i with
 | negSucc k => cases h
 | ofNat k =>
  have h1 : k < l.length := (List.getElem?_eq_some_iff.1 h).1
  rw [hn] at h1
  exact ⟨fun _ => intIn_nat h1,h1,ble_true h1,h,rfl⟩
theorem gI_lit (hn : l.length = n) (h : gI l (k : Int) = some y) : (∀ j,intIn n (.int j (k : Int)) = some k) ∧ Nat.ble (k + 1) n = true ∧ l[k]? = some y :=
 have h1 := gI_ok hn h
 ⟨h1.1,h1.2.2.1,h1.2.2.2.1⟩
def sI (l : List α) (i : Int) (v : α) : Option (List α) := match i with
 | .ofNat k => match Nat.blt k l.length with
  | true => some (l.set k v)
  | false => none
 | .negSucc _ => none
theorem splice_set {off : Nat} {v : PV} {cs : List PV} (h : off < cs.length) : spliceP off [v] cs = some (cs.set off v) := by
 unfold spliceP
 rw [show Nat.ble (off + [v].length) cs.length = true from ble_true h]
 simp only []
 rw [List.set_eq_take_append_cons_drop,if_pos h]
 simp
theorem sI_ok (f : α → PV) (hn : l.length = n) (h : sI l i v = some x) : (∀ k,intIn n (.int k i) = some i.toNat) ∧ i.toNat < n ∧ x.length = n ∧ spliceP i.toNat [f v] (l.map f) = some (x.map f) ∧ x = l.set i.toNat v := by
 cases i with
 | negSucc k => cases h
 | ofNat k =>
  unfold sI at h
  cases hb : Nat.blt k l.length with
  | false => simp [hb] at h
  | true =>
   have h1 : k < l.length := Nat.le_of_ble_eq_true hb
   simp [hb] at h
   subst h
   rw [hn] at h1
   refine ⟨fun _ => intIn_nat h1,h1,by simpa using hn, ?_,rfl⟩
   rw [show (Int.ofNat k).toNat = k from rfl,splice_set (by simpa [hn] using h1)]
   simp
def app1 (l : List α) (v : α) : Option (List α) := match Nat.ble l.length 1000000 with
 | true => some (l ++ [v])
 | false => none
theorem app1_ok (f : α → PV) (h : app1 l v = some x) : l.length + 1 = x.length ∧ (∀ k,k ≤ 1000 → Nat.ble (x.length * k) limit = true) ∧ l.map f ++ [f v] = x.map f ∧ x = l ++ [v] := by
 unfold app1 at h
 cases hb : Nat.ble l.length 1000000 with
 | false => simp [hb] at h
 | true =>
  have h1 := Nat.le_of_ble_eq_true hb
  simp [hb] at h
  subst h
  refine ⟨by simp,fun k hk => ble_true ?_,by simp,rfl⟩
  rw [List.length_append,List.length_singleton]
  have : (l.length + 1) * k ≤ 1000001 * 1000 := Nat.mul_le_mul (by omega) hk
  unfold limit; omega
theorem app1_rows {l x : List (Int × Int)} {v : Int × Int} (h : app1 l v = some x) : l.length + 1 = x.length ∧ (∀ k,k ≤ 1000 → Nat.ble (x.length * k) limit = true) ∧ rows l ++ [iv v.1,iv v.2] = rows x ∧ x = l ++ [v] := by
 obtain ⟨h1,h2,_,h4⟩ := app1_ok (fun _ => .dead) h
 subst h4
 exact ⟨h1,h2,by rw [rows_app]; rfl,rfl⟩
def appL (l r : List α) : Option (List α) := match Nat.beq r.length 0,Nat.ble (l.length + r.length) 1000000 with
 | false,true => some (l ++ r)
 | _,_ => none
theorem takeP_self : ∀ {cs : List PV},takeP cs.length cs = some cs
 | [] => rfl
 | c :: cs => by show takeP (cs.length + 1) _ = _; simp only [takeP,takeP_self]
theorem takeP_map {l : List α} : takeP l.length (l.map f) = some (l.map f) := by
 have := takeP_self (cs := l.map f)
 rwa [List.length_map] at this
def mkN (z : Int) : Option Nat := match z with
 | .ofNat n => match Nat.ble n 1000000 with
  | true => some n
  | false => none
 | .negSucc _ => none
theorem mkN_ok (h : mkN z = some n) : z = (n : Int) ∧ (∀ k,k ≤ 1000 → Nat.ble (n * k) limit = true) ∧ Nat.ble n n = true := by
 cases z with
 | negSucc k => cases h
 | ofNat k =>
  unfold mkN at h
  cases hb : Nat.ble k 1000000 with
  | false => simp [hb] at h
  | true =>
   have h1 := Nat.le_of_ble_eq_true hb
   simp [hb] at h
   subst h
   refine ⟨rfl,fun j hj => ble_true ?_,ble_true (Nat.le_refl _)⟩
   have : k * j ≤ 1000000 * 1000 := Nat.mul_le_mul h1 hj
   unfold limit; omega
theorem reps_rep {v : α} : ∀ {n : Nat},reps [f v] n = (List.replicate n v).map f
 | 0 => rfl
 | n + 1 => by simp only [reps,reps_rep (n := n),List.replicate_succ]; rfl
theorem rep_len {v : α} {n : Nat} : (List.replicate n v).length = n := List.length_replicate
theorem rows_at {l : List (Int × Int)} {p : Int × Int} {j : Nat} (h : l[j]? = some p) : (rows l).drop (j * 2) = iv p.1 :: iv p.2 :: (rows l).drop (j * 2 + 2) := by
 induction l generalizing j with
 | nil => cases h
 | cons a l ih =>
  cases j with
  | zero => cases h; rfl
  | succ j =>
   have := ih (j := j) (by simpa using h)
   rw [rows_cons,show (j + 1) * 2 = j * 2 + 1 + 1 by omega,List.drop_succ_cons,List.drop_succ_cons,this]
   rfl
theorem rows_ble {j n : Nat} (h : j < n) : Nat.ble ((j + 1) * 2) (n * 2) = true := ble_true (by omega)
def gS (s : List UInt8) (i : Int) : Option Int := match i with
 | .ofNat k => match s[k]? with
  | some c => some (c.toNat : Int)
  | none => none
 | .negSucc _ => none
theorem gS_ok {P : Program} {t : TypeId} {s : List UInt8} {c : Int} {k : IntKind} (ht : P.underlying t = some .string) (hs : shapeOf P t = some .string) (h : gS s i = some c) : pqIndex P t (.v (.string (bs s))) (.int k i) = some (.v (.int .u8 c)) ∧ 0 ≤ c ∧ c < 256 := by
 cases i with
 | negSucc k => cases h
 | ofNat j =>
  unfold gS at h
  cases e : s[j]? with
  | none => simp [e] at h
  | some b =>
   simp [e] at h
   subst h
   have hj : j < (bs s).size := by rw [bs_size]; exact (List.getElem?_eq_some_iff.1 e).1
   have h1 := str_index (P := P) (t := t) ht (s := bs s) (k := k) (i := j) hj
   have h2 : (bs s)[j]'hj = b := by rw [bs_get]; exact (List.getElem?_eq_some_iff.1 e).2
   rw [h2] at h1
   refine ⟨?_,by omega,by have := b.toNat_lt; omega⟩
   unfold pqIndex
   rw [hs]
   show (match prunP P (Instr.index t (.string (bs s)) (.int k (j : Int))) with | some r => pvOf r | none => none) = _
   rw [h1]
   rfl
end
section
variable {α : Type} {l r x : List α} {n k : Nat} {f : α → PV}
theorem settle_list {sz : TypeId → Option Nat} {base b cap : Nat} {hp : List (Option (List PV))} {t : TypeId} (f : α → PV) (h1 : base ≤ b) (h2 : sz t = some 1) (h3 : hp[b]? = some (some (l.map f))) (h4 : l.length = n) (h5 : ∀ z,cellOK (f z) = true) :
  settle sz base hp t (.s b 0 n cap) = some (.l .fz .any n (l.map f)) := by
 unfold settle
 simp only [show Nat.ble base b = true from ble_true h1,h2,h3]
 subst h4
 have h6 : (l.map f).all cellOK = true := by
  rw [List.all_eq_true]; intro v hv; obtain ⟨z,_,rfl⟩ := List.mem_map.1 hv; exact h5 z
 have h7 : List.take (l.length * 1) (List.drop 0 (l.map f)) = l.map f := by rw [List.drop_zero,Nat.mul_one]; exact List.take_of_length_le (by simp)
 simp only [h7,h6]
 rw [show Nat.ble (0 + l.length * 1) (l.map f).length = true from ble_true (by simp)]
 rfl
end
def vlOf : Ck → Vl
 | .full => .fz
 | _ => .own
def bytesN (l : List Int) : List UInt8 := l.map fun z => UInt8.ofNat z.toNat
theorem bytesP_kv : ∀ {l : List Int},bytesP (l.map (kv .u8)) = some l
 | [] => rfl
 | c :: l => by simp [bytesP,bytesP_kv (l := l)]
theorem strOfNums_eq {l : List Int} : strOfNums l = bs (bytesN l) := by
 unfold strOfNums bytesN
 rfl
theorem pbytes_list {P : Program} {Y : Pol} {f : FuncId} {dr : Dr} {src dst e : TypeId} {x : Operand} {σ : St} {b n cap : Nat} {l : List Int} {y : List UInt8} (hs : P.underlying src = some (.slice e)) (he : P.underlying e = some (.int .u8)) (hd : P.underlying dst = some .string)
  (hx : pev Y f σ x = some (.s b 0 n cap)) (hb : σ.hp[b]? = some (some (l.map (kv .u8)))) (hl : l.length = n) (hy : bytesN l = y) (hnil : prunP P (convert src dst (.slice none 0 0)) = some (.string ByteArray.empty)) (hm : (mayConv dr || freeDr dr) = true) :
  pbytes P Y f dr src dst x σ = some (.v (.string (bs y))) := by
 subst hy
 unfold pbytes
 rw [hs,hd,hm]
 simp only []
 rw [he,hx]
 simp only [isList,psrcLen]
 subst hl
 cases l with
 | nil =>
  simp only [List.length_nil,hnil]
  rfl
 | cons c l =>
  have h6 : ((c :: l).map (kv .u8)).all cellOK = true := by
   rw [List.all_eq_true]; intro v hv; obtain ⟨z,_,rfl⟩ := List.mem_map.1 hv; rfl
  have h7 := takeP_map (l := c :: l) (f := kv .u8)
  simp only [List.length_cons] at h7 ⊢
  simp only [psrc,hb,Nat.mul_one,List.drop_zero,h7,h6,bytesP_kv,strOfNums_eq]
theorem bs_eq {l m : List UInt8} : (bs l = bs m) ↔ l = m := ⟨fun h => by simpa using congrArg (fun b : ByteArray => b.data.toList) h,fun h => by rw [h]⟩
def sadd (a b : List UInt8) : Option (List UInt8) := match Nat.ble (a.length + b.length) 1000000 with
 | true => some (a ++ b)
 | false => none
def shlO (k : IntKind) (m n : Int) : Option Int := match n with
 | .ofNat j => some (shlI k m j)
 | .negSucc _ => none
def shrO (k : IntKind) (m n : Int) : Option Int := match n with
 | .ofNat j => some (shrI k m j)
 | .negSucc _ => none
theorem shlO_ok {k : IntKind} {m n z : Int} (h : shlO k m n = some z) : 0 ≤ n ∧ shlI k m n = z := by
 cases n with
 | negSucc j => cases h
 | ofNat j => exact ⟨Int.natCast_nonneg j,Option.some.inj h⟩
theorem shrO_ok {k : IntKind} {m n z : Int} (h : shrO k m n = some z) : 0 ≤ n ∧ shrI k m n = z := by
 cases n with
 | negSucc j => cases h
 | ofNat j => exact ⟨Int.natCast_nonneg j,Option.some.inj h⟩
theorem ble_add {n a b : Nat} : Nat.ble (n + a) (n + b) = decide (a ≤ b) := by rw [nble]; congr 1; simp
theorem ble_add0 {n b : Nat} : Nat.ble n (n + b) = true := ble_true (by omega)
theorem beq_add {n a b : Nat} : Nat.beq (n + a) (n + b) = decide (a = b) := by rw [nbeq]; congr 1; simp
theorem beq_add0 {n b : Nat} : Nat.beq n (n + b) = decide (b = 0) := by rw [nbeq]; congr 1; simp
theorem beq_add1 {n b : Nat} : Nat.beq (n + b) n = decide (b = 0) := by rw [nbeq]; congr 1; simp
theorem take_app1 {α : Type} {l r : List α} {a : α} : List.take (l.length + 1) (l ++ a :: r) = l ++ [a] := by rw [List.take_append,List.take_of_length_le (by omega),Nat.add_sub_cancel_left]; rfl
theorem min_same {n : Nat} : Nat.min n n = n := Nat.min_self n
theorem min_add {n k : Nat} : Nat.min n (n + k) = n := Nat.min_eq_left (by omega)
theorem ble_same {n : Nat} : Nat.ble n n = true := ble_true (Nat.le_refl _)
theorem ak_true : ak true = .bor := rfl
theorem ak_false : ak false = .fz := rfl
theorem argv_s {Y : Pol} {f : FuncId} {b o n c : Nat} {σ : St} : argv Y f (.s b o n c) σ = some (.s b o n c,σ,none) := rfl
theorem intIn2_0 : intIn 2 (.int .i64 0) = some 0 := rfl
theorem intIn2_1 : intIn 2 (.int .i64 1) = some 1 := rfl
theorem ble12 {n : Nat} : Nat.ble 1 (n + 1 + 1) = true := ble_true (by omega)
theorem ble22 {n : Nat} : Nat.ble 2 (n + 1 + 1) = true := ble_true (by omega)
def gN (n : Nat) : Option Unit := match Nat.ble n 1000000 with
 | true => some ()
 | false => none
theorem gN_ok {n : Nat} {u : Unit} (h : gN n = some u) : ∀ k,k ≤ 1000 → Nat.ble (n * k) limit = true := by
 unfold gN at h
 cases hb : Nat.ble n 1000000 with
 | false => simp [hb] at h
 | true =>
  intro k hk
  have h1 := Nat.le_of_ble_eq_true hb
  refine ble_true ?_
  have : n * k ≤ 1000000 * 1000 := Nat.mul_le_mul h1 hk
  unfold limit; omega
theorem max_int {P : Program} {ts : Array TypeId} {t : TypeId} {a b : Int} : prunP P (Builtin.max_ ts t #[.int .i64 a,.int .i64 b]) = some (.int .i64 (max a b)) := by
 unfold prunP Builtin.max_
 simp [Builtin.max2,prun_bnd,prun_pure]
 rw [show (if a < b then b else a) = max a b by rw [Int.max_def]; split <;> split <;> omega]
 rfl
theorem min_int {P : Program} {ts : Array TypeId} {t : TypeId} {a b : Int} : prunP P (Builtin.min_ ts t #[.int .i64 a,.int .i64 b]) = some (.int .i64 (min a b)) := by
 unfold prunP Builtin.min_
 simp [Builtin.min2,prun_bnd,prun_pure]
 rw [show (if b < a then b else a) = min a b by rw [Int.min_def]; split <;> split <;> omega]
 rfl
def gA (s : List UInt8) (k : Nat) : Option Nat := match s[k]? with
 | some c => match Nat.blt c.toNat 128 with
  | true => some c.toNat
  | false => none
 | none => none
theorem gA_ok {s : List UInt8} {k c : Nat} (h : gA s k = some c) : Utf8.decode (bs s) k = (c,1) := by
 unfold gA at h
 cases e : s[k]? with
 | none => simp [e] at h
 | some b =>
  cases hb : Nat.blt b.toNat 128 with
  | false => simp [e,hb] at h
  | true =>
   simp [e,hb] at h
   subst h
   have h1 : b.toNat < 128 := Nat.le_of_ble_eq_true hb
   have h2 : (bs s).get! k = b := by
    obtain ⟨hk,hk2⟩ := List.getElem?_eq_some_iff.1 e
    subst hk2
    simp [ByteArray.get!,hk]
   unfold Utf8.decode
   simp [h2,h1]
theorem pbytes_l {P : Program} {Y : Pol} {f : FuncId} {dr : Dr} {src dst e : TypeId} {x : Operand} {σ : St} {k : Vl} {c : Ck} {l : List Int} {y : List UInt8} (hs : P.underlying src = some (.slice e)) (he : P.underlying e = some (.int .u8)) (hd : P.underlying dst = some .string)
  (hx : pev Y f σ x = some (.l k c l.length (l.map (kv .u8)))) (hy : bytesN l = y) (hnil : prunP P (convert src dst (.slice none 0 0)) = some (.string ByteArray.empty)) (hm : (mayConv dr || freeDr dr) = true) :
  pbytes P Y f dr src dst x σ = some (.v (.string (bs y))) := by
 subst hy
 unfold pbytes
 rw [hs,hd,hm]
 simp only []
 rw [he,hx]
 simp only [isList,psrcLen]
 cases l with
 | nil =>
  simp only [List.length_nil,hnil]
  rfl
 | cons c l =>
  have h7 := takeP_map (l := c :: l) (f := kv .u8)
  simp only [List.length_cons] at h7 ⊢
  simp only [psrc,Nat.mul_one,h7,bytesP_kv,strOfNums_eq]
def copyO {α : Type} (old r : List α) : Option (List α) := match Nat.beq r.length old.length,Nat.beq r.length 0 with
 | true,false => some r
 | _,_ => none
theorem copy_ok {α : Type} {old r x : List α} {n : Nat} (f : α → PV) (hn : old.length = n) (h : copyO old r = some x) : Nat.min r.length n = n ∧ Nat.beq n 0 = false ∧ takeP n (r.map f) = some (r.map f) ∧ spliceP 0 (r.map f) (old.map f) = some (r.map f) ∧ r.length = n ∧ x = r := by
 unfold copyO at h
 cases ha : Nat.beq r.length old.length with
 | false => simp [ha] at h
 | true =>
  have h1 := Nat.eq_of_beq_eq_true ha
  cases hb : Nat.beq r.length 0 with
  | true => simp [ha,hb] at h
  | false =>
   simp [ha,hb] at h
   rw [hn] at h1
   subst h1
   refine ⟨Nat.min_self _,hb,takeP_map, ?_,rfl,h.symm⟩
   unfold spliceP
   rw [show Nat.ble (0 + (r.map f).length) (old.map f).length = true from ble_true (by simp [hn])]
   simp [hn]
def chkU (ops : Array Oper) (q : Nat) (u : List Nat) : Bool :=
 ops.toList.zipIdx.all fun (o,i) => Nat.beq i q || ordered ops i q || (match o.op with
  | .load _ (.tmp t) => Nat.blt i q && stays ops i q t && u.contains t
  | .load _ _ => false
  | op => !(Nat.beq (kindOf op) 1))
theorem mayStore_of {Y : Pol} {f : FuncId} {σ : St} {b : Nat} {ops : Array Oper} {q n : Nat} (u : List Nat) (h1 : chkU ops q u = true) (h2 : ∀ t ∈ u,∃ v,pev Y f σ (.tmp t) = some v ∧ apartP b v = true) : mayStore Y f σ b (some ⟨ops,q,n⟩) = true := by
 refine List.all_eq_true.2 fun x hx => ?_
 have h3 := List.all_eq_true.1 h1 x hx
 obtain ⟨o,i⟩ := x
 simp only [Bool.or_eq_true] at h3 ⊢
 rcases h3 with h3 | h3
 ·exact .inl h3
 ·refine .inr ?_
  split at h3
  ·rename_i t e
   simp only [Bool.and_eq_true] at h3
   obtain ⟨v,h4,h5⟩ := h2 t (by simpa using h3.2)
   rw [e]
   simp only [h3.1.1,h3.1.2,h4,h5]
   rfl
  ·cases h3
  ·rename_i e1 e2
   split
   ·rename_i t e; exact absurd e (e1 _ _)
   ·rename_i e; exact absurd e (e2 _ _)
   ·simp only [Bool.or_eq_true]; exact .inl h3
def wok (base : Nat) (w : Option Nat) : Prop := w = none ∨ ∃ k,w = some k ∧ base ≤ k
theorem wok_none {base : Nat} : wok base none := .inl rfl
theorem wok_low {base b : Nat} {w : Option Nat} (hw : wok base w) (hb : base ≤ b) : wok base (lowB w b) := by
 rcases hw with rfl | ⟨k,rfl,hk⟩
 ·exact .inr ⟨b,rfl,hb⟩
 ·exact .inr ⟨_,rfl,Nat.le_min.2 ⟨hk,hb⟩⟩
theorem wok_low_iff {base b : Nat} {w : Option Nat} : wok base (lowB w b) ↔ wok base w ∧ base ≤ b := by
 refine ⟨fun h => ?_,fun h => wok_low h.1 h.2⟩
 cases w with
 | none =>
  rcases h with h | ⟨k,h,hk⟩
  ·cases h
  ·cases h; exact ⟨.inl rfl,hk⟩
 | some a =>
  rcases h with h | ⟨k,h,hk⟩
  ·cases h
  ·cases h
   exact ⟨.inr ⟨a,rfl,(Nat.le_min.1 hk).1⟩,(Nat.le_min.1 hk).2⟩
theorem lowOf_none {base : Nat} : lowOf base none = none := rfl
theorem lowOf_wok {base : Nat} {w : Option Nat} (hw : wok base w) : lowOf base w = none := by
 rcases hw with rfl | ⟨k,rfl,hk⟩
 ·rfl
 ·show (match Nat.blt k base with | true => some k | false => none) = none
  rw [show Nat.blt k base = false from by rw [Nat.blt,nble]; exact decide_eq_false (by omega)]
section
variable {P : Program} {Y : Pol} {f : FuncId} {nt : Nat} {k : List Fm}
theorem loopS {V U ρ : Type} {S : (U → Option ρ) → Nat → V → Option ρ} {K : U → Option ρ} {r : ρ} {R : Option (PV × List (Option (List PV)) × Option Nat)} {g : FuncId} {rs : List ResultVar} {tys : List TypeId} {base id : Nat} {b : Code} {σ0 : St}
  (Fact : V → St → Prop) (FactO : U → St → Prop) {n0 : Nat} {v0 : V} (hz : ∀ v,S K 0 v = none) (h : S K n0 v0 = some r) (h0 : Fact v0 σ0)
  (hc : ∀ o σ,FactO o σ → K o = some r → ER P Y g rs tys base (EK P Y f nt k σ) = R)
  (hs : ∀ k' n v σ,Fact v σ → S K (n + 1) v = some r → (∀ v' σ',Fact v' σ' → S K n v' = some r → ER P Y g rs tys base (EK P Y f nt (.lp b :: .blk id :: k') σ') = R) →
   (∀ o σ',FactO o σ' → K o = some r → ER P Y g rs tys base (EK P Y f nt k' σ') = R) → ER P Y g rs tys base (EK P Y f nt (.c b :: .lp b :: .blk id :: k') σ) = R) :
  ER P Y g rs tys base (EK P Y f nt (.lp b :: .blk id :: k) σ0) = R := by
 induction n0 generalizing v0 σ0 with
 | zero => rw [hz] at h; cases h
 | succ n ih =>
  rw [EK_lp]
  exact hs k n v0 σ0 h0 h (fun v' σ' hf hh => ih hh hf) hc
end
end Go.Pur
set_option linter.unusedSimpArgs false
set_option linter.unusedVariables false
namespace Go.Pur
open Go.Abs
section
variable {P : Program} {t e : TypeId} {d n : Nat} {xs ys : Array Value} {x0 x1 y0 y1 v w : Value} {p q : Bool} {a b : Int} {x y : Operand}
theorem int_equal {k : IntKind} (ht : P.underlying t = some (.int k)) : prun P (Op.equalIn (d + 1) t (.int k a) (.int k b)) = some (decide (a = b)) := by
 rw [Op.equalIn]
 simp [prun_bnd,prun_pure,prun_und ht]
 rfl
theorem arr_equal (ht : P.underlying t = some (.array 2 e)) (hn : prun P (sizeOf e) = some n) (h0 : prun P (part e xs 0) = some x0) (h1 : prun P (part e xs n) = some x1) (k0 : prun P (part e ys 0) = some y0) (k1 : prun P (part e ys n) = some y1)
  (h : prun P (Op.equalIn d e x0 y0) = some p) (k : prun P (Op.equalIn d e x1 y1) = some q) : prun P (Op.equalIn (d + 1) t (.agg xs) (.agg ys)) = some (p && q) := by
 rw [Op.equalIn]
 simp [prun_bnd,prun_pure,prun_und ht,hn]
 rw [show List.range' 0 2 = [0,1] from rfl]
 simp only [List.forIn_cons,List.forIn_nil,prun_bnd,Nat.zero_mul,Nat.one_mul,h0,h1,k0,k1,h,k]
 cases p <;> cases q <;> simp [prun_bnd,prun_pure,h0,h1,k0,k1,h,k]
theorem abin_arr (hs : abinS P .eql t x y (.agg xs) (.agg ys) = prunP P (do eqGuard .eql t x y (.agg xs) (.agg ys); binOp .eql t (.agg xs) (.agg ys))) (h0 : prun P (eqGuard .eql t x y (.agg xs) (.agg ys)) = some ()) (h1 : prun P (Op.equalIn Op.maxDepth t (.agg xs) (.agg ys)) = some p) : abin P .eql t x y (.agg xs) (.agg ys) = some (.bool p) := by
 unfold abin
 rw [show intFast .eql (.agg xs) (.agg ys) = none from rfl]
 simp only []
 rw [hs]
 unfold prunP
 simp [prun_bnd,h0,binOp,prun_map,Op.equal,h1,plain]
theorem abin_narr (hs : abinS P .neq t x y (.agg xs) (.agg ys) = prunP P (do eqGuard .neq t x y (.agg xs) (.agg ys); binOp .neq t (.agg xs) (.agg ys))) (h0 : prun P (eqGuard .neq t x y (.agg xs) (.agg ys)) = some ()) (h1 : prun P (Op.equalIn Op.maxDepth t (.agg xs) (.agg ys)) = some p) : abin P .neq t x y (.agg xs) (.agg ys) = some (.bool (!p)) := by
 unfold abin
 rw [show intFast .neq (.agg xs) (.agg ys) = none from rfl]
 simp only []
 rw [hs]
 unfold prunP
 simp [prun_bnd,h0,binOp,prun_map,Op.equal,h1,plain]
end
end Go.Pur
set_option linter.unusedSimpArgs false
set_option linter.unusedVariables false
namespace Go.Proofs.YtcjephdjemapbaaDoor
open Go.Abs Go.Pur
set_option maxRecDepth 100000
theorem equal47 {k : Nat} {a b c d : Int} : prun Tryd.prog (Op.equalIn (k + 1 + 1) 47 (.agg #[.int .i64 a,.int .i64 b]) (.agg #[.int .i64 c,.int .i64 d])) = some (decide (a = c) && decide (b = d)) :=
 arr_equal (n := 1) (e := 3) Tryd.underlying47 (by kernel_rfl) (x0 := .int .i64 a) (x1 := .int .i64 b) (y0 := .int .i64 c) (y1 := .int .i64 d) (by kernel_rfl) (by kernel_rfl) (by kernel_rfl) (by kernel_rfl) (int_equal Tryd.underlying3) (int_equal Tryd.underlying3)
theorem neq47 {a b c d : Int} {x y : Operand} : abin Tryd.prog .neq 47 x y (.agg #[.int .i64 a,.int .i64 b]) (.agg #[.int .i64 c,.int .i64 d]) = some (.bool (!(decide (a = c) && decide (b = d)))) :=
 abin_narr rfl (by kernel_rfl) (by rw [show Op.maxDepth = 9998 + 1 + 1 from rfl]; exact equal47)
theorem equal81 {k : Nat} {a b c d a' b' c' d' : Int} : prun Tryd.prog (Op.equalIn (k + 1 + 1 + 1) 81 (.agg #[.int .i64 a,.int .i64 b,.int .i64 c,.int .i64 d]) (.agg #[.int .i64 a',.int .i64 b',.int .i64 c',.int .i64 d'])) = some ((decide (a = a') && decide (b = b')) && (decide (c = c') && decide (d = d'))) :=
 arr_equal (n := 2) (e := 47) Tryd.underlying81 (by kernel_rfl) (x0 := .agg #[.int .i64 a,.int .i64 b]) (x1 := .agg #[.int .i64 c,.int .i64 d]) (y0 := .agg #[.int .i64 a',.int .i64 b']) (y1 := .agg #[.int .i64 c',.int .i64 d']) (by kernel_rfl) (by kernel_rfl) (by kernel_rfl) (by kernel_rfl) equal47 equal47
theorem eql81 {a b c d a' b' c' d' : Int} {x y : Operand} : abin Tryd.prog .eql 81 x y (.agg #[.int .i64 a,.int .i64 b,.int .i64 c,.int .i64 d]) (.agg #[.int .i64 a',.int .i64 b',.int .i64 c',.int .i64 d']) = some (.bool ((decide (a = a') && decide (b = b')) && (decide (c = c') && decide (d = d')))) :=
 abin_arr rfl (by kernel_rfl) (by rw [show Op.maxDepth = 9997 + 1 + 1 + 1 from rfl]; exact equal81)
end Go.Proofs.YtcjephdjemapbaaDoor
set_option linter.unusedSimpArgs false
set_option linter.unusedVariables false
set_option linter.unusedSectionVars false
namespace Go.Pur
open Go.Abs Go.RowKit
theorem pplains_map : ∀ {rs : List Value},pplains (rs.map .v) = some rs
 | [] => rfl
 | r :: rs => by
  show (match (PV.v r :: rs.map .v) with
   | [] => some []
   | .v x :: l => match pplains l with
    | some r => some (x :: r)
    | none => none
   | _ :: _ => none) = _
  simp only [pplains_map]
theorem vr_packed {C : Ctx} {h : AHeap} {π : Option Pl} {rs : List Value} {x : Value} (hv : VR C h π (pPack (rs.map .v)) x) : x = packed rs := by
 have two : ∀ {rs : List Value} {x : Value},VR C h π (.t (rs.map .v)) x → x = .tuple rs.toArray := fun {rs x} hv => by
  obtain ⟨l,rfl,hl⟩ := hv.inv_t
  obtain ⟨e,_⟩ := pplains_lr pplains_map hl
  rw [e]
 match rs,hv with
 | [],hv => exact two hv
 | [v],hv => exact hv.inv_v.1
 | a :: b :: r,hv => exact two hv
theorem vrel_packed {m : BMap} {rs : List Value} {v : Value} (hok : rs.all okP = true) (h : VRel m (packed rs) v) : v = packed rs := by
 have two : ∀ {rs : List Value} {v : Value},rs.all okP = true → VRel m (.tuple rs.toArray) v → v = .tuple rs.toArray := fun {rs v} hok h => by
  obtain ⟨l,rfl,hl⟩ := h.inv_tuple
  have := LRel.all_plain hl (List.all_eq_true.2 fun v hv => okP_plain (List.all_eq_true.1 hok v hv))
  have e : l = rs.toArray := Array.toList_inj.1 this
  rw [e]
 match rs,hok,h with
 | [],hok,h => exact two hok h
 | [a],hok,h => exact h.inv_plain (v := a) (okP_plain (by simpa using hok))
 | a :: b :: r,hok,h => exact two hok h
section
variable {P : Program} {Y : Pol} {W : World}
theorem Lies.below {B : Blk} {L : Abs.Loc} {n : Nat} {W W' : World} (h : Lies W B L) (hL : L.b < n) (hb : Below n W W') : Lies W' B L := by
 obtain ⟨h1,h2,h3,h4,h5⟩ := h
 have e : W'.heap[L.b]? = W.heap[L.b]? := hb.block _ hL
 refine ⟨h1,h2,Nat.lt_of_lt_of_le h3 hb.size,h4.imp (fun h => h) (fun ⟨C,t,fr,h⟩ => ⟨C,t,fr,by rw [e]; exact h⟩),fun k v hk => ?_⟩
 obtain ⟨c1,c2⟩ := h5 k v hk
 exact ⟨by rw [World.cell?_of_block (w := W) e]; exact c1,c2⟩
theorem pure_calls (hmix : P.follows .mixedOrders = true) (hok : progOK P = true) (hlib : ∀ g,Y.yes g = true → FnOK P Y g) {G : List Blk} {GL : List Abs.Loc} (hG : G ≠ []) (hlen : G.length = GL.length) (hw : ∀ B ∈ G,B.wr = false)
  (hT : ∀ (i : Nat) (B : Blk) (L : Abs.Loc),G[i]? = some B → GL[i]? = some L → Lies W B L) (hgl : ∀ g,g < P.globals.size → GL[g]? = some ⟨g,0,0⟩)
  (hgr : ∀ l : List Blk,GR P Y (C0 P (G ++ l).length) (heapOf (G ++ l)))
  {f : FuncId} {us : List PV} {vs : List Value} {rs : List Value} {hp' : List (Option (List PV))} {wl : Option Nat} (hrs : rs.all okP = true) (hA : ArgsIn W vs us) (hE : E P Y f us [] = some (pPack (rs.map .v),hp',wl)) :
  Calls P f vs.toArray W fun e W' => e = .returned (packed rs) ∧ Below W.heap.size W W' := by
 obtain ⟨l,ls,xs,a1,a2,a3⟩ := args_in (P := P) hA hG hlen
 obtain ⟨b1,b2⟩ := a3 [] []
 simp only [List.append_nil] at b1 b2
 obtain ⟨n,hn⟩ := E_iff.1 hE
 obtain ⟨O,hl,hO,hOe⟩ := lib_of hlib
 obtain ⟨C',h',x',r1,r2⟩ := purRun_sim hl hok n f us [] _ hp' wl hn (C0 P (G ++ l).length) (heapOf (G ++ l)) xs 0
  ⟨rfl,⟨fun _ h => h,fun id h => ⟨h,rfl⟩,fun _ _ h => (by cases h),fun _ _ h => (by cases h),fun _ _ _ h => (by cases h),fun _ _ h => (by simp at h),fun _ _ h => (by simp at h)⟩,hgr l,fun _ _ h => (by cases h),b2⟩
 obtain rfl := vr_packed r2.res
 have hR : Rel P (mapOf (GL ++ ls)) (heapOf (G ++ l)) W := by
  refine rel_init _ _ (by simp [a1,hlen]) (fun i B L hB hL => ?_) (fun g hg => ?_)
  ·by_cases hi : i < G.length
   ·rw [List.getElem?_append_left hi] at hB
    rw [List.getElem?_append_left (hlen ▸ hi)] at hL
    exact hT i B L hB hL
   ·rw [List.getElem?_append_right (Nat.not_lt.1 hi)] at hB
    rw [List.getElem?_append_right (hlen ▸ Nat.not_lt.1 hi)] at hL
    rw [← hlen] at hL
    exact a2 _ B L hB hL
  ·have h := hgl g hg
   rw [List.getElem?_append_left (List.getElem?_eq_some_iff.1 h).1]
   exact h
 obtain ⟨_,hc⟩ := sound_call hmix hOe hO n f xs (heapOf (G ++ l)) (packed rs) h' r1
 refine (hc _ W vs hR b1).mono fun e W' ⟨m',v',he,hv,_,hs⟩ => ?_
 rw [vrel_packed hrs hv] at he
 refine ⟨he,⟨hs.os,hs.tape,hs.output,hs.size,fun k hk => hs.frame k hk (fun a B L hB hwr _ _ => ?_) (fun a x L hx => (by cases hx))⟩⟩
 rw [heapOf_get] at hB
 have hmem := List.mem_of_getElem? hB
 rw [List.mem_append] at hmem
 rcases hmem with hm | hm
 ·rw [hw B hm] at hwr; cases hwr
 ·obtain ⟨i,hi,rfl⟩ := List.mem_iff_getElem.1 hm
  rw [(a2 i _ (ls[i]'(a1 ▸ hi)) (List.getElem?_eq_getElem hi) (List.getElem?_eq_getElem _)).1] at hwr
  cases hwr
end
end Go.Pur
namespace Go.Proofs
open Go.Shelf
def Tryd.revInt_ren : Go.Shelf.Ren := ⟨fun | 35 => 52 | n => n,fun | 22 => 23 | 23 => 3 | 3 => 3 | 4 => 4 | 0 => 0 | n => n,fun | n => n⟩
theorem Tryd.revInt : Go.Proofs.SlLaysE.n35 Tryd.prog Tryd.revInt_ren := {
 mixed := by kernel_rfl
 f35 := ⟨Tryd.f52.name,by decide,Tryd.func52.trans (congrArg some (by kernel_rfl))⟩
 t0 := Tryd.underlying0
 a0 := Tryd.isAgg0
 z0 := Tryd.sizeOf0
 v0 := Tryd.zeroValue0
 t3 := Tryd.underlying3
 a3 := Tryd.isAgg3
 z3 := Tryd.sizeOf3
 v3 := Tryd.zeroValue3
 t4 := Tryd.underlying4
 a4 := Tryd.isAgg4
 z4 := Tryd.sizeOf4
 v4 := Tryd.zeroValue4
 t22 := Tryd.underlying23
 a22 := Tryd.isAgg23
 z22 := Tryd.sizeOf23
 v22 := Tryd.zeroValue23
 a23 := Tryd.isAgg3
 z23 := Tryd.sizeOf3 }
def Tryd.lays15c_ren : Go.Shelf.Ren := ⟨fun | 15 => 51 | n => n,fun | 22 => 23 | 3 => 3 | 4 => 4 | n => n,fun | n => n⟩
theorem Tryd.lays15c : Go.Proofs.Lays2.n15 Tryd.prog Tryd.lays15c_ren := {
 mixed := by kernel_rfl
 f15 := Tryd.func51.trans (congrArg some (by kernel_rfl))
 t3 := Tryd.underlying3
 a3 := Tryd.isAgg3
 z3 := Tryd.sizeOf3
 v3 := Tryd.zeroValue3
 t4 := Tryd.underlying4
 a4 := Tryd.isAgg4
 z4 := Tryd.sizeOf4
 v4 := Tryd.zeroValue4
 t22 := Tryd.underlying23
 a22 := Tryd.isAgg23
 z22 := Tryd.sizeOf23
 v22 := Tryd.zeroValue23
 i3 := by kernel_rfl }
end Go.Proofs
set_option linter.unusedSimpArgs false
set_option linter.unusedVariables false
namespace Go.Proofs.YtcjephdjemapbaaDoor
open Go.Abs Go.Pur
set_option maxRecDepth 100000
attribute [local simp] Go.Pur.EK_region Go.Pur.EK_seq Go.Pur.EK_cond Go.Pur.EK_block Go.Pur.EK_blk Go.Pur.EK_loop Go.Pur.EK_exit EK.ex Go.Pur.EK_ret Go.Pur.EK_skip Go.Pur.EK_nil Go.Pur.EO_cons Go.Pur.EO_nil Go.Pur.EO1_true Go.Pur.EO1_false Go.Pur.EO2_some Go.Pur.EO3_some Go.Pur.EB_true Go.Pur.EB_false Go.Pur.pwanted Go.Pur.poper Go.Pur.pq Go.Pur.pev Go.Pur.look Go.Pur.pputT Go.Pur.isAssign Go.Pur.drOf Go.Pur.pinit Go.Abs.Tr.get_set Go.Pur.lget Go.Pur.pvOf_int Go.Pur.pvOf_bool Go.Pur.pvOf_str Go.Pur.pvOf_nil Go.Pur.rdv_ak Go.Pur.notOwn_ak Go.Pur.prt_ak Go.Pur.loose_ak Go.Pur.rdv_own Go.Pur.rdv_fz Go.Pur.rdv_bor Go.Pur.rdv_rf Go.Pur.rdv_pt Go.Pur.rdv_v Go.Pur.rdv_a Go.Pur.rdv_t Go.Pur.rdv_r Go.Pur.rdv_p Go.Pur.rdv_s Go.Pur.rdv_f Go.Pur.pbin Go.Pur.plen Go.Pur.pload Go.Pur.ppart Go.Pur.idxAddr Go.Pur.pcond Nat.blt Go.Pur.goInt_eq Go.Pur.prun_not Go.Pur.prun_neg Go.Pur.mayLoad Go.Pur.ER_ret Go.Pur.ER_normal Go.Pur.presL Go.Pur.presOne Go.Pur.moved Go.Pur.stor Go.Pur.okDrop Go.Pur.settle_v Go.Pur.settle_l Go.Pur.settle_a Go.Pur.settle_p Go.Pur.settle_f Go.Pur.noref_v Go.Pur.noref_fz Go.Pur.noref_a Go.Pur.norefs_nil Go.Pur.norefs_cons Go.Pur.pclose Go.Pur.given Go.Pur.lowOf Go.Pur.dropB Y0_keep Go.Pur.pevParts Go.Pur.stors Go.Pur.pvCells pvCells.go Go.Abs.vcells Go.Pur.pfill Go.Pur.reps Go.Pur.zipParts Go.Pur.ownFz Go.Pur.pcells Go.Pur.cellOK Go.Pur.one Go.Pur.psrcLen Go.Pur.srcFits Go.Pur.psrc Go.Pur.takeP Go.Pur.pgrow Go.Pur.take Go.Pur.getPl Go.Pur.setPl Go.Pur.mapL Go.Pur.plEq Go.Pur.elder Go.Pur.isList Go.Pur.lowP Go.Pur.pevs Go.Pur.frzs Go.Pur.addP Go.Pur.partAt Go.Pur.ble_lim24 Go.Pur.killV_v Go.Pur.killV_a Go.Pur.killV_t Go.Pur.killV_f Go.Pur.killV_i Go.Pur.killV_p Go.Pur.killV_s Go.Pur.killV_un Go.Pur.killV_dead Go.Pur.killV_lfz Go.Pur.killV_lbor Go.Pur.killV_lown Go.Pur.killV_rfz Go.Pur.killV_rbor Go.Pur.killV_lak Go.Pur.killV_rak Go.Pur.frzV_v Go.Pur.frzV_a Go.Pur.frzV_t Go.Pur.frzV_f Go.Pur.frzV_i Go.Pur.frzV_p Go.Pur.frzV_s Go.Pur.frzV_un Go.Pur.frzV_dead Go.Pur.frzV_lfz Go.Pur.frzV_lbor Go.Pur.frzV_lown Go.Pur.frzV_rfz Go.Pur.frzV_rbor Go.Pur.frzV_lak Go.Pur.frzV_rak Go.Pur.killCell_v Go.Pur.killCell_a Go.Pur.killCell_t Go.Pur.killCell_f Go.Pur.killCell_i Go.Pur.killCell_p Go.Pur.killCell_s Go.Pur.killCell_un Go.Pur.killCell_dead Go.Pur.killCell_lfz Go.Pur.killCell_lbor Go.Pur.killCell_lown Go.Pur.killCell_rfz Go.Pur.killCell_rbor Go.Pur.killCell_lak Go.Pur.killCell_rak Go.Pur.killV_lrf Go.Pur.killV_lpt Go.Pur.killV_rpt Go.Pur.frzV_lrf Go.Pur.frzV_lpt Go.Pur.frzV_rpt Go.Pur.killCell_lrft Go.Pur.killCell_lptt Go.Pur.killCell_rptt Go.Pur.killCell_lrfc Go.Pur.killCell_lptc Go.Pur.killCell_rptc Go.Pur.argv_lak Go.Pur.argv_rak Go.Pur.argv_v Go.Pur.argv_a Go.Pur.argv_p Go.Pur.argv_f Go.Pur.argv_fz Go.Pur.argv_bor Go.Pur.argv_rf Go.Pur.argv_pt Go.Pur.argv_rc Go.Pur.argv_own Go.Pur.mayTurn_none Go.Pur.argvs Go.Pur.pcallOp Go.Pur.firm Go.Pur.lowB Go.Pur.refsTo_v Go.Pur.refsTo_l Go.Pur.refsTo_p Go.Pur.refsTo_s Go.Pur.refsTo_a Go.Pur.refsTo_dead Go.Pur.refsTo_nil Go.Pur.refsTo_cons Go.Pur.isOwn_lak Go.Pur.ownFz_lak Go.Pur.evSafe Go.Pur.pskip Go.Abs.plain Go.Pur.pnewBlk Go.Pur.fldAddr Go.Pur.isOwn Go.Pur.pput Go.Pur.spliceP Go.Pur.notOwn_fz Go.Pur.notOwn_bor Go.Pur.notOwn_own Go.Pur.notOwn_rf Go.Pur.notOwn_pt Go.Pur.prt_fz Go.Pur.prt_bor Go.Pur.prt_own Go.Pur.prt_rf Go.Pur.prt_pt Go.Pur.freeze Go.Pur.presM Go.Pur.settles Go.Pur.abin_and Go.Pur.abin_or Go.Pur.abin_andNot Go.Pur.abin_mul Go.Pur.abin_shr Go.Pur.abin_shl Go.Pur.abin_add Go.Pur.abin_sub Go.Pur.abin_eql Go.Pur.abin_neq Go.Pur.abin_lss Go.Pur.abin_leq Go.Pur.abin_gtr Go.Pur.abin_geq Go.Pur.hows Go.Pur.pcallIn Y0_how Y0_part howOf partOf Go.Pur.rdv_mown Go.Pur.rdv_mfz Go.Pur.rdv_mbor Go.Pur.rdv_mrf Go.Pur.killV_mown Go.Pur.killV_mfz Go.Pur.killV_mbor Go.Pur.killV_mrf Go.Pur.frzV_mown Go.Pur.frzV_mfz Go.Pur.frzV_mbor Go.Pur.frzV_mrf Go.Pur.killCell_mown Go.Pur.killCell_mfz Go.Pur.killCell_mbor Go.Pur.killCell_mrf Go.Pur.argv_mfz Go.Pur.argv_mbor Go.Pur.argv_mrf Go.Pur.settle_m Go.Pur.kls_v Go.Pur.kls_l Go.Pur.kls_a Go.Pur.kls_t Go.Pur.kls_r Go.Pur.kls_p Go.Pur.kls_s Go.Pur.kls_f Go.Pur.kls_i Go.Pur.kls_it Go.Pur.kls_un Go.Pur.kls_dead Go.Pur.kls_mown Go.Pur.kls_mrf Go.Pur.kls_mbor Go.Pur.kls_mfz Go.Pur.fzOf Go.Pur.takable Go.Pur.mapHere Go.Pur.mapOwn Go.Pur.mapTo Go.Pur.flat Go.Pur.toPlain toPlain.go Go.Pur.ofFlat Go.Pur.ofPair Go.Pur.mapEs Go.Pur.plook Go.Abs.lookRes Y0_mv mvOf Go.Pur.mvBlk Go.Pur.premv Y0_fzm fzmOf Go.Pur.poperX Go.Pur.pconv Go.Pur.mvOp
def lettersB (a b : UInt8) (k y : Nat) : ByteArray := ⟨((List.range k).map fun i => if y.testBit i then b else a).toArray⟩
theorem u8_at {y i : Nat} (h : y < 256) (hi : i < 7) : andI .u8 (shrI .u8 y i) 1 = (if y.testBit i then 1 else 0) := by
 have : (List.range 256).all (fun y => (List.range 7).all fun i => decide (andI .u8 (shrI .u8 y i) 1 = (if y.testBit i then 1 else 0))) = true := by kernel_rfl
 rw [List.all_eq_true] at this
 have := this y (List.mem_range.2 h)
 rw [List.all_eq_true] at this
 simpa using this i (List.mem_range.2 hi)
theorem lettersB_size {a b : UInt8} {k y : Nat} : (lettersB a b k y).size = k := by simp [lettersB,ByteArray.size]
theorem lettersB_succ {a b : UInt8} {k y : Nat} : lettersB a b k y ++ ⟨#[if y.testBit k then b else a]⟩ = lettersB a b (k + 1) y := by
 apply ByteArray.ext
 rw [ByteArray.data_append]
 simp [lettersB,List.range_succ]
theorem ou0 : pqSlice Tryd.prog 9 (sv ⟨#[111,117]⟩) (some (.int .u8 0)) (some (.int .u8 1)) none = some (sv ⟨#[111]⟩) := by kernel_rfl
theorem ou1 : pqSlice Tryd.prog 9 (sv ⟨#[111,117]⟩) (some (.int .u8 1)) (some (.int .u8 2)) none = some (sv ⟨#[117]⟩) := by kernel_rfl
theorem conv53 {z : Int} : prunP Tryd.prog (convert 5 3 (.int .u8 z)) = some (.int .i64 (IntKind.i64.wrap z)) := by kernel_rfl
theorem folded_is {m y : Nat} {hp : List (Option (List PV))} (hm : m < 256) (hy : y < 256) : E Tryd.prog Y0 42 [uv m,uv y] hp = some (sv (lettersB 111 117 (m % 7) y),hp,none) := by
 rw [E_bodyN 2 body42 rfl (by decide) rfl]
 simp only [Tryd.f42,Option.get_some]
 have w1 : IntKind.i64.wrap (m : Int) = m := wrap64 (by omega) (by omega)
 have hM : m % 7 < 7 := Nat.mod_lt _ (by decide)
 have w2 : (m : Int).tmod 7 = ((m % 7 : Nat) : Int) := rfl
 generalize m % 7 = M at hM w2 ⊢
 simp [keep42,conv53,w1,abin_rem,w2]
 refine loop_ind (fun k σ => ∃ (i : Nat) (ts : Tr PV),k + i = M ∧ σ = ⟨[],ts,hp,none⟩ ∧ ts.get 1 = some (uv y) ∧ ts.get 5 = some (sv (lettersB 111 117 i y)) ∧ ts.get 9 = some (.v (.int .i64 M)) ∧ ts.get 10 = some (.v (.int .i64 i))) (n0 := M) ?_ ?_
 ·refine ⟨0,_,rfl,rfl,by simp,by simp; rfl,by simp,by simp⟩
 ·rintro k σ ⟨i,ts,hk,rfl,g1,g5,g9,g10⟩ ih
  by_cases hi : i < M
  ·have a1 := u8_at hy (show i < 7 by omega)
   have hii : (i : Int) < (M : Nat) := by omega
   have w3 := wrap_nat (show i < 1000000000000 by omega)
   have u1 : IntKind.u8.wrap 1 = 1 := rfl
   have u2 : IntKind.u8.wrap 2 = 2 := rfl
   have st := @lettersB_succ 111 117 i y
   have sz : ∀ c : UInt8,(lettersB 111 117 i y).size + (ByteArray.mk #[c]).size ≤ 9223372036854775807 := fun c => by rw [lettersB_size]; simp [ByteArray.size]; omega
   cases hb : y.testBit i with
   | true =>
    rw [hb,if_pos rfl] at a1 st
    simp [keep42,g1,g5,g9,g10,hii,a1,u1,u2,optPlain,ou0,ou1,abin_sadd (sz _),st,w3]
    exact ih (k - 1) _ (by omega) ⟨i + 1,_,by omega,rfl,by simp [g1],by simp,by simp [g9],by simp⟩
   | false =>
    rw [hb,if_neg (by decide)] at a1 st
    simp [keep42,g1,g5,g9,g10,hii,a1,u1,u2,optPlain,ou0,ou1,abin_sadd (sz _),st,w3]
    exact ih (k - 1) _ (by omega) ⟨i + 1,_,by omega,rfl,by simp [g1],by simp,by simp [g9],by simp⟩
  ·have hii : ¬ (i : Int) < (M : Nat) := by omega
   obtain rfl : i = M := by omega
   simp [keep42,g1,g5,g9,g10,hii]
def lettersE (l : List UInt8) (most : Int) (a b : UInt8) : Int := if most < l.length then 19 else if l.all (fun c => c == a || c == b) then 0 else 10
abbrev bv (b : Bool) : PV := .v (.bool b)
def setCells (m : List UInt8) : List PV := (List.range 256).map fun i => bv (m.any fun c => c.toNat == i)
theorem setCells_len {m : List UInt8} : (setCells m).length = 256 := by simp [setCells]
theorem setCells_get {m : List UInt8} {i : Nat} (h : i < 256) : (setCells m)[i]? = some (bv (m.any fun c => c.toNat == i)) := by simp [setCells,h]
theorem setCells_set {m : List UInt8} {c : UInt8} : (setCells m).set c.toNat (bv true) = setCells (m ++ [c]) := by
 refine List.ext_getElem (by simp [setCells]) fun i h1 h2 => ?_
 have hi : i < 256 := by simpa [setCells] using h2
 rw [List.getElem_set]
 by_cases e : c.toNat = i
 ·simp [setCells,e]
 ·simp [setCells,e]
theorem splice_set {off : Nat} {v : PV} {cs : List PV} (h : off < cs.length) : spliceP off [v] cs = some (cs.set off v) := by
 unfold spliceP
 rw [show Nat.ble (off + [v].length) cs.length = true from ble_true h]
 simp only []
 rw [List.set_eq_take_append_cons_drop,if_pos h]
 simp
theorem splice_all {vs cs : List PV} (h : cs.length = vs.length) : spliceP 0 vs cs = some vs := by
 unfold spliceP
 rw [show Nat.ble (0 + vs.length) cs.length = true from ble_true (by omega)]
 simp [h]
theorem takeP_len : ∀ {cs : List PV},takeP cs.length cs = some cs
 | [] => rfl
 | c :: cs => by show takeP (cs.length + 1) _ = _; simp only [takeP,takeP_len]
theorem takeP_full {n : Nat} {cs : List PV} (h : cs.length = n) : takeP n cs = some cs := by subst h; exact takeP_len
theorem setCells_isOwn {m : List UInt8} : (setCells m).any isOwn = false := by
 rw [List.any_eq_false]
 intro v hv
 obtain ⟨i,_,rfl⟩ := List.mem_map.1 hv
 simp [isOwn]
theorem setCells_one {m : List UInt8} : (setCells m).all one = true := by
 rw [List.all_eq_true]
 intro v hv
 obtain ⟨i,_,rfl⟩ := List.mem_map.1 hv
 rfl
theorem go_plain {b : Nat} : ∀ {cs : List PV},(∀ v ∈ cs,∃ x,v = .v x) → refsTo.go b cs = true
 | [],_ => rfl
 | c :: cs,h => by
  obtain ⟨x,rfl⟩ := h c (by simp)
  simp [refsTo.go,refsTo,go_plain fun v hv => h v (List.mem_cons_of_mem _ hv)]
theorem norefs_plain : ∀ {cs : List PV},(∀ v ∈ cs,∃ x,v = .v x) → noref.norefs cs = true
 | [],_ => rfl
 | c :: cs,h => by
  obtain ⟨x,rfl⟩ := h c (by simp)
  simp [noref.norefs,noref,norefs_plain fun v hv => h v (List.mem_cons_of_mem _ hv)]
theorem setCells_plain {m : List UInt8} : ∀ v ∈ setCells m,∃ x,v = .v x := fun v hv => by
 obtain ⟨i,_,rfl⟩ := List.mem_map.1 hv
 exact ⟨_,rfl⟩
theorem setCells_refs {b : Nat} {m : List UInt8} : refsTo.go b (setCells m) = true := go_plain setCells_plain
noncomputable def Z86 : Value := (zeroOf Tryd.prog 86).get (by kernel_rfl)
theorem zero86 : zeroOf Tryd.prog 86 = some Z86 := (Option.some_get _).symm
theorem pv86 : pvCells Z86 = some (setCells []) := by kernel_rfl
theorem ascii_is {l : List UInt8} {hp : List (Option (List PV))} (hl : ∀ c ∈ l,c.toNat < 128) (h1 : l.length < 1000) : E Tryd.prog Y0 75 [sv (bs l)] hp = some (.t [.a (setCells l),bv true],hp,none) := by
 rw [E_bodyN 1 body75 rfl (by decide) rfl]
 simp only [Tryd.f75,Option.get_some]
 simp [keep75,-pvCells,zero86,pv86]
 refine loop_ind (fun m σ => ∃ (j : Nat) (ts : Tr PV) (w : Option Nat),m + j = l.length ∧ (w = none ∨ w = some hp.length) ∧ σ = ⟨[],ts,hp ++ [some (setCells (l.take j))],w⟩ ∧ ts.get 0 = some (sv (bs l)) ∧ ts.get 2 = some (.p hp.length 0) ∧ ts.get 4 = some (.v (.int .i64 j))) (n0 := l.length) ?_ ?_
 ·exact ⟨0,_,none,rfl,.inl rfl,rfl,by simp,by simp,by simp⟩
 ·rintro m σ ⟨j,ts,w,hm,hw,rfl,g0,g2,g4⟩ ih
  rcases Nat.lt_or_ge j l.length with hj | hj
  ·have hjj : (j : Int) < l.length := by omega
   have w3 := wrap_nat (show j < 1000000000000 by omega)
   have q1 : pqIndex Tryd.prog 9 (sv (bs l)) (.int .i64 j) = some (uv (l[j]).toNat) := by
    have := str_index (P := Tryd.prog) (t := 9) Tryd.underlying9 (s := bs l) (k := .i64) (i := j) (by rw [bs_size]; exact hj)
    simp only [pqIndex,shape9,this]
    rfl
   have q2 : l.take (j + 1) = l.take j ++ [l[j]] := by rw [List.take_add_one,List.getElem?_eq_getElem hj]; rfl
   have hc := hl _ (List.getElem_mem hj)
   generalize l[j] = c at q1 q2 hc
   have q3 := @setCells_set (l.take j) c
   rw [← q2] at q3
   have q4 : spliceP c.toNat [bv true] (setCells (l.take j)) = some (setCells (l.take (j + 1))) := by rw [splice_set (by rw [setCells_len]; omega),q3]
   simp [-spliceP,keep75,shape9,shape86,bs_size,g0,g2,g4,hjj,q1,w3,q4,show ¬ (128 : Int) ≤ c.toNat by omega,intIn_nat (show c.toNat < 256 by omega),gAt0,sAt0,sz4]
   exact ih (m - 1) _ (by omega) ⟨j + 1,_,_,by omega,by rcases hw with rfl | rfl <;> simp,rfl,by simp [g0],by simp [g2],by simp⟩
  ·rw [List.take_of_length_le hj]
   simp [-spliceP,keep75,shape9,shape86,bs_size,g0,g2,g4,show ¬ (j : Int) < l.length by omega,gAt0,sAt0,row86,sz86,takeP_full setCells_len,setCells_isOwn,setCells_one,splice_all,setCells_len,setCells_refs]
   have k3 : Nat.ble (hp.length + 1) hp.length = false := by rw [nble]; simp
   rcases hw with rfl | rfl <;> simp [norefs_plain setCells_plain,k3]
theorem contains_is {m : List UInt8} {c : UInt8} {b : Nat} {hp : List (Option (List PV))} (hb : hp[b]? = some (some (setCells m))) : E Tryd.prog Y0 88 [.p b 0,uv c.toNat] hp = some (bv (decide (c ∈ m)),hp,none) := by
 rw [E_bodyN 2 body88 rfl (by decide) rfl]
 simp only [Tryd.f88,Option.get_some]
 have h1 := @setCells_get m c.toNat c.toNat_lt
 have h2 : (m.any fun d => d.toNat == c.toNat) = decide (c ∈ m) := by
  rw [Bool.eq_iff_iff]
  simp [UInt8.toNat_inj]
 rw [h2] at h1
 simp [keep88,shape86,row4,hb,intIn_nat c.toNat_lt,h1]
theorem bs_take {l : List UInt8} {k : Nat} : (bs l).extract 0 k = bs (l.take k) := by
 apply ByteArray.ext
 simp [ByteArray.data_extract]
theorem bs_drop {l : List UInt8} {k : Nat} : (bs l).extract k (bs l).size = bs (l.drop k) := by
 apply ByteArray.ext
 rw [ByteArray.data_extract,bs_size]
 simp
 exact List.take_of_length_le (by simp)
def trimR (m l : List UInt8) : List UInt8 := (l.reverse.dropWhile (· ∈ m)).reverse
def trimL (m l : List UInt8) : List UInt8 := l.dropWhile (· ∈ m)
theorem trimRight_is {m l : List UInt8} {b : Nat} {hp : List (Option (List PV))} (hl : l.length < 1000) (hb : hp[b]? = some (some (setCells m))) : E Tryd.prog Y0 77 [sv (bs l),.p b 0] hp = some (sv (bs (trimR m l)),hp,none) := by
 rw [E_bodyN 2 body77 rfl (by decide) rfl]
 simp only [Tryd.f77,Option.get_some]
 simp [keep77]
 generalize hR : trimR m l = R
 refine loop_ind (fun n σ => ∃ (cur : List UInt8) (ts : Tr PV),n = cur.length ∧ cur.length < 1000 ∧ trimR m cur = R ∧ σ = ⟨[],ts,hp,none⟩ ∧ ts.get 0 = some (sv (bs cur)) ∧ ts.get 1 = some (.p b 0)) (n0 := l.length) ?_ ?_
 ·exact ⟨l,_,rfl,hl,hR,rfl,by simp,by simp⟩
 ·rintro n σ ⟨cur,ts,rfl,hc,hR,rfl,g0,g1⟩ ih
  rcases List.eq_nil_or_concat cur with rfl | ⟨c0,c,e⟩
  ·have : R = [] := hR.symm
   subst this
   simp [keep77,shape9,bs_size,g0,g1]
  ·rw [List.concat_eq_append] at e
   subst e
   have hlen : (c0 ++ [c]).length = c0.length + 1 := by simp
   have w3 : IntKind.i64.wrap (c0.length : Int) = c0.length := wrap64 (by omega) (by omega)
   have q1 : pqIndex Tryd.prog 9 (sv (bs (c0 ++ [c]))) (.int .i64 c0.length) = some (uv c.toNat) := by
    have := str_index (P := Tryd.prog) (t := 9) Tryd.underlying9 (s := bs (c0 ++ [c])) (k := .i64) (i := c0.length) (by rw [bs_size]; simp)
    simp only [pqIndex,shape9,this]
    simp [bs_get,pvOf,plain]
   have q2 : pqSlice Tryd.prog 9 (sv (bs (c0 ++ [c]))) none (some (.int .i64 c0.length)) none = some (sv (bs c0)) := by
    have := str_to (P := Tryd.prog) (t := 9) Tryd.underlying9 (s := bs (c0 ++ [c])) (k := .i64) (b := c0.length) (by rw [bs_size]; simp)
    simp only [pqSlice,shape9,this]
    simp [bs_take,pvOf,plain]
   by_cases hcm : c ∈ m
   ·have hR' : trimR m c0 = R := by rw [← hR]; simp [trimR,hcm]
    simp [keep77,shape9,bs_size,g0,g1,w3,q1,q2,contains_is hb,hcm,optPlain]
    exact ih _ _ (by simp) ⟨c0,_,rfl,by omega,hR',rfl,by simp,by simp [g1]⟩
   ·have hR' : R = c0 ++ [c] := by rw [← hR]; simp [trimR,hcm]
    subst hR'
    simp [keep77,shape9,bs_size,g0,g1,w3,q1,q2,contains_is hb,hcm,optPlain]
theorem trimLeft_is {m l : List UInt8} {b : Nat} {hp : List (Option (List PV))} (hl : l.length < 1000) (hb : hp[b]? = some (some (setCells m))) : E Tryd.prog Y0 76 [sv (bs l),.p b 0] hp = some (sv (bs (trimL m l)),hp,none) := by
 rw [E_bodyN 2 body76 rfl (by decide) rfl]
 simp only [Tryd.f76,Option.get_some]
 simp [keep76]
 generalize hR : trimL m l = R
 refine loop_ind (fun n σ => ∃ (cur : List UInt8) (ts : Tr PV),n = cur.length ∧ cur.length < 1000 ∧ trimL m cur = R ∧ σ = ⟨[],ts,hp,none⟩ ∧ ts.get 0 = some (sv (bs cur)) ∧ ts.get 1 = some (.p b 0)) (n0 := l.length) ?_ ?_
 ·exact ⟨l,_,rfl,hl,hR,rfl,by simp,by simp⟩
 ·rintro n σ ⟨cur,ts,rfl,hc,hR,rfl,g0,g1⟩ ih
  cases cur with
  | nil =>
   have : R = [] := hR.symm
   subst this
   simp [keep76,shape9,bs_size,g0,g1]
  | cons c cur =>
   have q1 : pqIndex Tryd.prog 9 (sv (bs (c :: cur))) (.int .i64 0) = some (uv c.toNat) := by
    have := str_index (P := Tryd.prog) (t := 9) Tryd.underlying9 (s := bs (c :: cur)) (k := .i64) (i := 0) (by rw [bs_size]; simp)
    have e : ((0 : Nat) : Int) = 0 := rfl
    rw [e] at this
    simp only [pqIndex,shape9,this]
    simp [bs_get,pvOf,plain]
   have q2 : pqSlice Tryd.prog 9 (sv (bs (c :: cur))) (some (.int .i64 1)) none none = some (sv (bs cur)) := by
    have := str_from (P := Tryd.prog) (t := 9) Tryd.underlying9 (s := bs (c :: cur)) (k := .i64) (a := 1) (by rw [bs_size]; simp)
    have e : ((1 : Nat) : Int) = 1 := rfl
    rw [e] at this
    simp only [pqSlice,shape9,this]
    simp [bs_drop,pvOf,plain]
   by_cases hcm : c ∈ m
   ·have hR' : trimL m cur = R := by rw [← hR]; simp [trimL,hcm]
    simp [keep76,shape9,bs_size,g0,g1,q1,q2,contains_is hb,hcm,optPlain,show (0 : Int) < cur.length + 1 by omega]
    exact ih _ _ (by simp) ⟨cur,_,rfl,by simp at hc; omega,hR',rfl,by simp,by simp [g1]⟩
   ·have hR' : R = c :: cur := by rw [← hR]; simp [trimL,hcm]
    subst hR'
    simp [keep76,shape9,bs_size,g0,g1,q1,q2,contains_is hb,hcm,optPlain,show (0 : Int) < cur.length + 1 by omega]
theorem trimR_len {m l : List UInt8} : (trimR m l).length ≤ l.length := by
 unfold trimR
 rw [List.length_reverse]
 have := (List.dropWhile_sublist (· ∈ m) (l := l.reverse)).length_le
 simpa using this
theorem bs_eq {l m : List UInt8} : (bs l = bs m) ↔ l = m := ⟨fun h => by simpa using congrArg (fun b : ByteArray => b.data.toList) h,fun h => by rw [h]⟩
def trimB (m l : List UInt8) : List UInt8 := trimL m (trimR m l)
theorem trim_is {m l : List UInt8} {hp : List (Option (List PV))} (hl : l.length < 1000) (hm : ∀ c ∈ m,c.toNat < 128) (h2 : m.length = 2) : E Tryd.prog Y0 43 [sv (bs l),sv (bs m)] hp = some (sv (bs (trimB m l)),hp,none) := by
 rw [E_bodyN 2 body43 rfl (by decide) rfl]
 simp only [Tryd.f43,Option.get_some]
 have em : ByteArray.mk #[] = bs [] := rfl
 have hm0 : ¬ m = [] := fun e => by subst e; cases h2
 by_cases h0 : l = []
 ·subst h0
  simp [keep43,shape9,abin_seql,bs_size,h2,trimB,trimL,trimR]
 ·have f1 := @trimR_len m l
  have k3 : Nat.ble (hp.length + 1) hp.length = false := by rw [nble]; simp
  simp [k3,-pvCells,-spliceP,keep43,shape9,abin_seql,bs_size,h2,em,bs_eq,h0,hm0,ascii_is hm (by omega),zero86,pv86,sz86,setCells_len,setCells_one,setCells_refs,splice_all,setCells_isOwn,gAt0,sAt0,trimRight_is hl (show (hp ++ [some (setCells m)])[hp.length]? = some (some (setCells m)) by simp),trimLeft_is (show (trimR m l).length < 1000 by omega) (show (hp ++ [some (setCells m)])[hp.length]? = some (some (setCells m)) by simp),trimB]
theorem dropWhile_nil {α : Type} {p : α → Bool} : ∀ {l : List α},l.dropWhile p = [] ↔ ∀ x ∈ l,p x = true
 | [] => by simp
 | x :: l => by
  rw [List.dropWhile_cons]
  cases h : p x with
  | true => simp [h,dropWhile_nil (p := p) (l := l)]
  | false => simp [h]
theorem trimB_nil {m l : List UInt8} : trimB m l = [] ↔ ∀ c ∈ l,c ∈ m := by
 unfold trimB trimL trimR
 rw [dropWhile_nil]
 constructor
 ·intro h c hc
  by_cases hcm : c ∈ m
  ·exact hcm
  ·have h2 : c ∈ (List.dropWhile (fun x => decide (x ∈ m)) l.reverse).reverse := by
    rw [List.mem_reverse]
    have h3 := List.takeWhile_append_dropWhile (p := fun x => decide (x ∈ m)) (l := l.reverse)
    have h4 : c ∈ l.reverse := List.mem_reverse.2 hc
    rw [← h3,List.mem_append] at h4
    rcases h4 with h4 | h4
    ·have := List.all_eq_true.1 (List.all_takeWhile (p := fun x => decide (x ∈ m)) (l := l.reverse)) c h4
     simp at this; exact absurd this hcm
    ·exact h4
   simpa using h c h2
 ·intro h c hc
  rw [List.mem_reverse] at hc
  have := (List.dropWhile_sublist (fun x => decide (x ∈ m)) (l := l.reverse)).subset hc
  simpa using h c (List.mem_reverse.1 this)
theorem written_is {l : List UInt8} {most : Nat} {a b : UInt8} {hp : List (Option (List PV))} (hm : most < 1000) (ha : a.toNat < 128) (hb : b.toNat < 128) : E Tryd.prog Y0 60 [sv (bs l),.v (.int .i64 most),sv (bs [a,b])] hp = some (.v (.int .i64 (lettersE l most a b)),hp,none) := by
 rw [E_bodyN 3 body60 rfl (by decide) rfl]
 simp only [Tryd.f60,Option.get_some]
 have em : ByteArray.mk #[] = bs [] := rfl
 by_cases h : (most : Int) < l.length
 ·have : lettersE l most a b = 19 := by unfold lettersE; rw [if_pos h]
  rw [this]
  simp [keep60,shape9,bs_size,h]
 ·have ht := fun hp => @trim_is [a,b] l hp (by omega) (by intro c hc; simp at hc; rcases hc with rfl | rfl <;> assumption) rfl
  have hle : lettersE l most a b = if l.all (fun c => c == a || c == b) then 0 else 10 := by unfold lettersE; rw [if_neg h]
  have hall : l.all (fun c => c == a || c == b) = decide (trimB [a,b] l = []) := by
   rw [Bool.eq_iff_iff,decide_eq_true_eq,trimB_nil,List.all_eq_true]
   simp
  rw [hall] at hle
  rw [hle]
  by_cases h2 : trimB [a,b] l = []
  ·simp [keep60,shape9,bs_size,h,ht,abin_sneq,em,bs_eq,h2]
  ·simp [keep60,shape9,bs_size,h,ht,abin_sneq,em,bs_eq,h2]
def checkE (l : List UInt8) : Int := lettersE l 6 111 117
theorem check_is {l : List UInt8} {hp : List (Option (List PV))} : E Tryd.prog Y0 27 [sv (bs l)] hp = some (.v (.int .i64 (checkE l)),hp,none) := by
 rw [E_bodyN 1 body27 rfl (by decide) rfl]
 simp only [Tryd.f27,Option.get_some]
 have := fun hp => @written_is l 6 111 117 hp (by decide) (by decide) (by decide)
 have e : ((6 : Nat) : Int) = 6 := rfl
 simp only [e] at this
 simp [keep27,show ByteArray.mk #[111,117] = bs [111,117] from rfl,this,checkE]
def pairOf (c : UInt8) (n : Nat) (s : Int) : List Int := if ((c == 111) != (s % 2 == 0)) = true then [s,2 * n - 1 - s] else [2 * n - 1 - s,s]
def pileL : List UInt8 → List Int
 | [] => [0]
 | c :: r => (pileL r).flatMap (pairOf c (pileL r).length)
theorem pairOf_len {c : UInt8} {n : Nat} {s : Int} : (pairOf c n s).length = 2 := by unfold pairOf; split <;> rfl
theorem flat_len {α : Type} {f : α → List Int} (h : ∀ a,(f a).length = 2) : ∀ l : List α,(l.flatMap f).length = 2 * l.length
 | [] => rfl
 | a :: l => by simp [h,flat_len h l]; omega
theorem pileL_len : ∀ l,(pileL l).length = 2 ^ l.length
 | [] => rfl
 | c :: r => by rw [pileL,flat_len (fun a => pairOf_len),pileL_len r,List.length_cons,Nat.pow_succ]; omega
theorem pileL_range : ∀ l,∀ s ∈ pileL l,0 ≤ s ∧ s < 2 ^ l.length
 | [],s,h => by simp [pileL] at h; subst h; simp
 | c :: r,s,h => by
  obtain ⟨t,ht,hs⟩ := List.mem_flatMap.1 h
  have h1 := pileL_range r t ht
  have h2 := pileL_len r
  have h3 : (2 : Int) ^ (c :: r).length = 2 * 2 ^ r.length := by rw [List.length_cons,Int.pow_succ]; omega
  have h4 : (((pileL r).length : Nat) : Int) = 2 ^ r.length := by rw [h2]; simp
  rw [h3]
  unfold pairOf at hs
  rw [h4] at hs
  split at hs <;> simp at hs <;> omega
def pileC : List UInt8 → Ck
 | [] => .full
 | _ => .any
theorem bool_neq {x y : Operand} {a b : Bool} : abin Tryd.prog .neq 4 x y (.bool a) (.bool b) = some (.bool (a != b)) := by cases a <;> cases b <;> kernel_rfl
theorem bool_eql {x y : Operand} {a b : Bool} : abin Tryd.prog .eql 4 x y (.bool a) (.bool b) = some (.bool (a == b)) := by cases a <;> cases b <;> kernel_rfl
theorem sl47 {b : Nat} : pqSlice Tryd.prog 47 (.p b 0) none none none = some (.s b 0 2 2) := by
 unfold pqSlice
 rw [shape47]
 rfl
theorem splice_app {n : Nat} {l vs pad : List PV} (h : l.length = n) (h2 : vs.length ≤ pad.length) : spliceP n vs (l ++ pad) = some (l ++ (vs ++ pad.drop vs.length)) := by
 subst h
 unfold spliceP
 rw [show Nat.ble (l.length + vs.length) (l ++ pad).length = true from ble_true (by simp; omega)]
 simp
theorem el23 : elemSz Tryd.prog 23 = some 1 := by kernel_rfl
theorem reps_len1 {v : PV} : ∀ {n : Nat},(reps [v] n).length = n
 | 0 => rfl
 | n + 1 => by simp [reps,reps_len1]
theorem pile_is : ∀ {l : List UInt8} {hp : List (Option (List PV))},l.length ≤ 6 → E Tryd.prog Y0 55 [sv (bs l)] hp = some (.l .fz (pileC l) (pileL l).length ((pileL l).map iv),hp,none)
 | [],hp,_ => by
  rw [E_bodyN 1 body55 rfl (by decide) rfl]
  simp only [Tryd.f55,Option.get_some]
  simp [keep55,shape9,bs_size,shape23,zero3,pileL,pileC]
 | c :: r,hp,hl => by
  have ih := fun hp => @pile_is r hp (by simp at hl; omega)
  have hlen := pileL_len r
  have h64 : 2 ^ r.length ≤ 32 := Nat.pow_le_pow_right (n := 2) (by decide) (show r.length ≤ 5 by simp at hl; omega)
  rw [← hlen] at h64
  have hr := pileL_range r
  rw [E_bodyN 1 body55 rfl (by decide) rfl]
  simp only [Tryd.f55,Option.get_some]
  have q2 : pqSlice Tryd.prog 9 (sv (bs (c :: r))) (some (.int .i64 1)) none none = some (sv (bs r)) := by
   have := str_from (P := Tryd.prog) (t := 9) Tryd.underlying9 (s := bs (c :: r)) (k := .i64) (a := 1) (by rw [bs_size]; simp)
   have e : ((1 : Nat) : Int) = 1 := rfl
   rw [e] at this
   simp only [pqSlice,shape9,this]
   simp [bs_drop,pvOf,plain]
  have q3 : pqIndex Tryd.prog 9 (sv (bs (c :: r))) (.int .i64 0) = some (uv c.toNat) := by
   have := str_index (P := Tryd.prog) (t := 9) Tryd.underlying9 (s := bs (c :: r)) (k := .i64) (i := 0) (by rw [bs_size]; simp)
   have e : ((0 : Nat) : Int) = 0 := rfl
   rw [e] at this
   simp only [pqIndex,shape9,this]
   simp [bs_get,pvOf,plain]
  have hC : pileC (c :: r) = .any := rfl
  have hL : pileL (c :: r) = (pileL r).flatMap (pairOf c (pileL r).length) := rfl
  rw [hC,hL]
  generalize pileL r = R at ih hlen h64 hr
  generalize pileC r = ck at ih
  have h0 : ¬ ((r.length : Int) + 1 = 0) := by omega
  obtain ⟨N,hN⟩ : ∃ N,N = 2 * R.length := ⟨_,rfl⟩
  have w1 : mulI .i64 2 R.length = (N : Int) := by unfold mulI; rw [wrap64 (by omega) (by omega)]; omega
  have w2 : IntKind.i64.wrap ((N : Int) - 1) = N - 1 := wrap64 (by omega) (by omega)
  obtain ⟨Out,hOut⟩ : ∃ Out,Out = R.flatMap (pairOf c R.length) := ⟨_,rfl⟩
  rw [← hOut]
  have hON : Out.length = N := by rw [hOut,flat_len (fun a => pairOf_len),hN]
  rw [hON]
  have k1 : (Nat.ble 0 N && Nat.ble (N * 10) limit) = true := by rw [show Nat.ble (N * 10) limit = true from ble_true (by unfold limit; omega)]; simp
  simp [keep55,shape9,bs_size,shape23,q2,q3,optPlain,ih,h0,w1,w2,zero3,by3,k1]
  refine loop_ind (fun m σ => ∃ (j : Nat) (pad : List PV) (G : List (Option (List PV))) (ts : Tr PV) (w : Option Nat),m + j = R.length ∧ pad.length + 2 * j = N ∧ (w = none ∨ ∃ k,w = some k ∧ hp.length ≤ k) ∧ σ = ⟨[],ts,hp ++ some (((R.take j).flatMap (pairOf c R.length)).map iv ++ pad) :: G,w⟩ ∧ ts.get 0 = some (sv (bs (c :: r))) ∧ ts.get 5 = some (.s hp.length 0 (2 * j) N) ∧ ts.get 6 = some (iv (N - 1)) ∧ ts.get 26 = some (.l .fz ck R.length (R.map iv)) ∧ ts.get 27 = some (iv R.length) ∧ ts.get 28 = some (iv j)) (n0 := R.length) ?_ ?_
  ·exact ⟨0,reps [iv 0] N,[],_,none,rfl,by simp [reps_len1],.inl rfl,by simp; rfl,by simp,by simp,by simp,by simp,by simp,by simp⟩
  ·rintro m σ ⟨j,pad,G,ts,w,hm,hpad,hw,rfl,g0,g5,g6,g26,g27,g28⟩ ih2
   rcases Nat.lt_or_ge j R.length with hj | hj
   ·have hjj : (j : Int) < R.length := by omega
    have r1 : Nat.ble (j + 1) R.length = true := ble_true hj
    have r2 : R[j]? = some R[j] := List.getElem?_eq_getElem hj
    have r3 : (R.take (j + 1)).flatMap (pairOf c R.length) = (R.take j).flatMap (pairOf c R.length) ++ pairOf c R.length R[j] := by rw [List.take_add_one,r2,List.flatMap_append]; simp
    have hs := hr _ (List.getElem_mem hj)
    have h2R : (2 : Int) ^ r.length = R.length := by rw [hlen]; simp
    rw [h2R] at hs
    generalize R[j] = x at r2 r3 hs
    have w3 := wrap_nat (show j < 1000000000000 by omega)
    have w4 : IntKind.i64.wrap ((N : Int) - 1 - x) = N - 1 - x := wrap64 (by omega) (by omega)
    have w5 : IntKind.i64.wrap (2 * (R.length : Int) - 1 - x) = 2 * R.length - 1 - x := wrap64 (by omega) (by omega)
    have t1 : x.tmod 2 = x % 2 := Int.tmod_eq_emod_of_nonneg hs.1
    have n1 : ((c.toNat : Int) = 111) ↔ c = 111 := by
     rw [show (111 : Int) = (((111 : UInt8).toNat : Nat) : Int) from rfl,Int.ofNat_inj]; exact UInt8.toNat_inj
    have k5 : Nat.ble ((2 * j + 2) * 10) limit = true := ble_true (by unfold limit; omega)
    have k6 : Nat.ble (N + 1) unkCap = true := ble_true (by unfold unkCap; omega)
    have k7 : Nat.ble (2 * j + 2) N = true := ble_true (by omega)
    have sp := fun vs h => @splice_app (2 * j) (((R.take j).flatMap (pairOf c R.length)).map iv) vs pad (by rw [List.length_map,flat_len (fun a => pairOf_len),List.length_take]; omega) h
    have hpad2 : 2 ≤ pad.length := by omega
    have fin := fun (a b : Int) (ts' : Tr PV) (G' : List (Option (List PV))) (w' : Option Nat) (hab : pairOf c R.length x = [a,b]) (hw' : w' = none ∨ ∃ k,w' = some k ∧ hp.length ≤ k) (a0 : ts'.get 0 = some (sv (bs (c :: r)))) (a5 : ts'.get 5 = some (.s hp.length 0 (2 * j + 2) N)) (a6 : ts'.get 6 = some (iv (N - 1))) (a26 : ts'.get 26 = some (.l .fz ck R.length (R.map iv))) (a27 : ts'.get 27 = some (iv R.length)) (a28 : ts'.get 28 = some (iv ((j : Int) + 1))) =>
     ih2 (m - 1) ⟨[],ts',hp ++ some (((R.take j).flatMap (pairOf c R.length)).map iv ++ iv a :: iv b :: pad.drop 2) :: G',w'⟩ (by omega) ⟨j + 1,pad.drop 2,G',ts',w',by omega,by rw [List.length_drop]; omega,hw',by rw [r3,hab]; simp,a0,by rw [a5]; rfl,a6,a26,a27,by rw [a28]; simp⟩
    clear ih2
    by_cases e1 : c = 111
    ·have e1' := n1.2 e1
     by_cases e2 : x % 2 = 0
     ·have e3 : pairOf c R.length x = [(N : Int) - 1 - x,x] := by unfold pairOf; rw [if_neg (by simp [e1,e2])]; congr 1; omega
      simp [-spliceP,keep55,shape9,shape23,shape47,g0,g5,g6,g26,g27,g28,hjj,r1,r2,intIn_nat hj,row3,w3,w4,q3,optPlain,zero47,parts47,sz47,row47,abin_rem,t1,e1',e2,bool_neq,gAt,gAt0,sAt,sAt0,Go.Pur.partAt,sl47,zero3,by3,k5,k6,k7,sp,hpad2,splice_all]
      exact fin _ _ _ _ _ e3 (by rcases hw with rfl | ⟨k,rfl,hk⟩ <;> simp <;> omega) (by simp [g0]) (by simp) (by simp [g6]) (by simp [g26]) (by simp [g27]) (by simp)
     ·have e3 : pairOf c R.length x = [x,(N : Int) - 1 - x] := by unfold pairOf; rw [if_pos (by simp [e1]; omega)]; congr 2; omega
      simp [-spliceP,keep55,shape9,shape23,shape47,g0,g5,g6,g26,g27,g28,hjj,r1,r2,intIn_nat hj,row3,w3,w4,q3,optPlain,zero47,parts47,sz47,row47,abin_rem,t1,e1',e2,bool_neq,gAt,gAt0,sAt,sAt0,Go.Pur.partAt,sl47,zero3,by3,k5,k6,k7,sp,hpad2,splice_all]
      exact fin _ _ _ _ _ e3 (by rcases hw with rfl | ⟨k,rfl,hk⟩ <;> simp <;> omega) (by simp [g0]) (by simp) (by simp [g6]) (by simp [g26]) (by simp [g27]) (by simp)
    ·have e1' : ¬ (c.toNat : Int) = 111 := fun h => e1 (n1.1 h)
     by_cases e2 : x % 2 = 0
     ·have e3 : pairOf c R.length x = [x,(N : Int) - 1 - x] := by unfold pairOf; rw [if_pos (by simp [e1,e2])]; congr 2; omega
      simp [-spliceP,keep55,shape9,shape23,shape47,g0,g5,g6,g26,g27,g28,hjj,r1,r2,intIn_nat hj,row3,w3,w4,q3,optPlain,zero47,parts47,sz47,row47,abin_rem,t1,e1',e2,bool_neq,gAt,gAt0,sAt,sAt0,Go.Pur.partAt,sl47,zero3,by3,k5,k6,k7,sp,hpad2,splice_all]
      exact fin _ _ _ _ _ e3 (by rcases hw with rfl | ⟨k,rfl,hk⟩ <;> simp <;> omega) (by simp [g0]) (by simp) (by simp [g6]) (by simp [g26]) (by simp [g27]) (by simp)
     ·have e3 : pairOf c R.length x = [(N : Int) - 1 - x,x] := by unfold pairOf; rw [if_neg (by rw [show (c == 111) = false by simp [e1],show (x % 2 == 0) = false by simp; omega]; decide)]; congr 1; omega
      simp [-spliceP,keep55,shape9,shape23,shape47,g0,g5,g6,g26,g27,g28,hjj,r1,r2,intIn_nat hj,row3,w3,w4,q3,optPlain,zero47,parts47,sz47,row47,abin_rem,t1,e1',e2,bool_neq,gAt,gAt0,sAt,sAt0,Go.Pur.partAt,sl47,zero3,by3,k5,k6,k7,sp,hpad2,splice_all]
      exact fin _ _ _ _ _ e3 (by rcases hw with rfl | ⟨k,rfl,hk⟩ <;> simp <;> omega) (by simp [g0]) (by simp) (by simp [g6]) (by simp [g26]) (by simp [g27]) (by simp)
   ·have hpad0 : pad = [] := List.eq_nil_of_length_eq_zero (by omega)
    have hj2 : 2 * j = N := by omega
    subst hpad0
    rw [List.take_of_length_le hj,← hOut]
    rw [hj2] at g5
    simp [keep55,shape9,shape23,g0,g5,g6,g26,g27,g28,show ¬ (j : Int) < R.length by omega]
    have k3 : Nat.ble (hp.length + 1) hp.length = false := by rw [nble]; simp
    have k8 : ∀ k,hp.length ≤ k → Nat.ble (k + 1) hp.length = false := fun k hk => by rw [nble]; simp; omega
    have k9 : List.take N (Out.map iv) = Out.map iv := List.take_of_length_le (by simp [hON])
    have k10 : (Out.map iv).all cellOK = true := by rw [List.all_eq_true]; intro v hv; obtain ⟨i,_,rfl⟩ := List.mem_map.1 hv; rfl
    have k11 : Nat.ble N Out.length = true := ble_true (by omega)
    have k12 : Nat.ble hp.length hp.length = true := ble_true (Nat.le_refl _)
    simp [Go.Pur.settle,el23,gAt0,k9,k10,k11,k12]
    rcases hw with rfl | ⟨k,rfl,hk⟩
    ·simp
    ·simp [k8 k hk]
theorem check_len {l : List UInt8} (h : checkE l = 0) : l.length ≤ 6 := by
 unfold checkE lettersE at h
 split at h
 ·cases h
 ·omega
end Go.Proofs.YtcjephdjemapbaaDoor

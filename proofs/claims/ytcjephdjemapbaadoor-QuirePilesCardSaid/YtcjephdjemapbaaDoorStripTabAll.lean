/-
  The strip, folded: all folds.
  Conditions: none; lemmas.
-/
import Derived.Test.YtcjephdjemapbaaDoorStripTabA
import Derived.Test.YtcjephdjemapbaaDoorStripTabB
import Derived.Test.YtcjephdjemapbaaDoorStripTabC
import Derived.Test.YtcjephdjemapbaaDoorStripTabD
set_option linter.unusedSimpArgs false
set_option linter.unusedVariables false
namespace Go.Proofs.YtcjephdjemapbaaDoor
open Go.Abs Go.Pur
set_option maxRecDepth 100000
theorem okS_all {l : List UInt8} (h : checkE l = 0) : okS l = true := by
  have k5 : (((strs 5).drop 0).take 32).all okS = true := all_join (L := strs 5) (p := okS) (a := 0) (b := 16) (c := 16) rs5a rs5b
  have j0 : (((strs 6).drop 0).take 12).all okS = true := all_join (L := strs 6) (p := okS) (a := 0) (b := 6) (c := 6) rs6_0 rs6_6
  have j1 : (((strs 6).drop 0).take 13).all okS = true := all_join (L := strs 6) (p := okS) (a := 0) (b := 12) (c := 1) j0 rs6_12
  have j2 : (((strs 6).drop 0).take 19).all okS = true := all_join (L := strs 6) (p := okS) (a := 0) (b := 13) (c := 6) j1 rs6_13
  have j3 : (((strs 6).drop 0).take 25).all okS = true := all_join (L := strs 6) (p := okS) (a := 0) (b := 19) (c := 6) j2 rs6_19
  have j4 : (((strs 6).drop 0).take 30).all okS = true := all_join (L := strs 6) (p := okS) (a := 0) (b := 25) (c := 5) j3 rs6_25
  have j5 : (((strs 6).drop 0).take 36).all okS = true := all_join (L := strs 6) (p := okS) (a := 0) (b := 30) (c := 6) j4 rs6_30
  have j6 : (((strs 6).drop 0).take 42).all okS = true := all_join (L := strs 6) (p := okS) (a := 0) (b := 36) (c := 6) j5 rs6_36
  have j7 : (((strs 6).drop 0).take 47).all okS = true := all_join (L := strs 6) (p := okS) (a := 0) (b := 42) (c := 5) j6 rs6_42
  have j8 : (((strs 6).drop 0).take 53).all okS = true := all_join (L := strs 6) (p := okS) (a := 0) (b := 47) (c := 6) j7 rs6_47
  have j9 : (((strs 6).drop 0).take 59).all okS = true := all_join (L := strs 6) (p := okS) (a := 0) (b := 53) (c := 6) j8 rs6_53
  have j10 : (((strs 6).drop 0).take 64).all okS = true := all_join (L := strs 6) (p := okS) (a := 0) (b := 59) (c := 5) j9 rs6_59
  exact all_of (p := okS) rs0 rs1 rs2 rs3 rs4 k5 j10 h
end Go.Proofs.YtcjephdjemapbaaDoor

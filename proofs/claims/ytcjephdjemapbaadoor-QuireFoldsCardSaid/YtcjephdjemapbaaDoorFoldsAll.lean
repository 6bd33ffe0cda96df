/-
  QuireFolds: all folds.
  Conditions: none; lemmas.
-/
import Derived.Test.YtcjephdjemapbaaDoorFoldsA
import Derived.Test.YtcjephdjemapbaaDoorFoldsB
import Derived.Test.YtcjephdjemapbaaDoorFoldsC
import Derived.Test.YtcjephdjemapbaaDoorFoldsD
set_option linter.unusedSimpArgs false
set_option linter.unusedVariables false
namespace Go.Proofs.YtcjephdjemapbaaDoor
open Go.Abs Go.Pur
set_option maxRecDepth 100000
theorem okF_all {l : List UInt8} (h : checkE l = 0) : okF l = true := by
  have k5 : (((strs 5).drop 0).take 32).all okF = true := all_join (L := strs 5) (p := okF) (a := 0) (b := 16) (c := 16) rf5a rf5b
  have j0 : (((strs 6).drop 0).take 10).all okF = true := all_join (L := strs 6) (p := okF) (a := 0) (b := 5) (c := 5) rf6_0 rf6_5
  have j1 : (((strs 6).drop 0).take 13).all okF = true := all_join (L := strs 6) (p := okF) (a := 0) (b := 10) (c := 3) j0 rf6_10
  have j2 : (((strs 6).drop 0).take 18).all okF = true := all_join (L := strs 6) (p := okF) (a := 0) (b := 13) (c := 5) j1 rf6_13
  have j3 : (((strs 6).drop 0).take 23).all okF = true := all_join (L := strs 6) (p := okF) (a := 0) (b := 18) (c := 5) j2 rf6_18
  have j4 : (((strs 6).drop 0).take 28).all okF = true := all_join (L := strs 6) (p := okF) (a := 0) (b := 23) (c := 5) j3 rf6_23
  have j5 : (((strs 6).drop 0).take 30).all okF = true := all_join (L := strs 6) (p := okF) (a := 0) (b := 28) (c := 2) j4 rf6_28
  have j6 : (((strs 6).drop 0).take 35).all okF = true := all_join (L := strs 6) (p := okF) (a := 0) (b := 30) (c := 5) j5 rf6_30
  have j7 : (((strs 6).drop 0).take 40).all okF = true := all_join (L := strs 6) (p := okF) (a := 0) (b := 35) (c := 5) j6 rf6_35
  have j8 : (((strs 6).drop 0).take 45).all okF = true := all_join (L := strs 6) (p := okF) (a := 0) (b := 40) (c := 5) j7 rf6_40
  have j9 : (((strs 6).drop 0).take 47).all okF = true := all_join (L := strs 6) (p := okF) (a := 0) (b := 45) (c := 2) j8 rf6_45
  have j10 : (((strs 6).drop 0).take 52).all okF = true := all_join (L := strs 6) (p := okF) (a := 0) (b := 47) (c := 5) j9 rf6_47
  have j11 : (((strs 6).drop 0).take 57).all okF = true := all_join (L := strs 6) (p := okF) (a := 0) (b := 52) (c := 5) j10 rf6_52
  have j12 : (((strs 6).drop 0).take 62).all okF = true := all_join (L := strs 6) (p := okF) (a := 0) (b := 57) (c := 5) j11 rf6_57
  have j13 : (((strs 6).drop 0).take 64).all okF = true := all_join (L := strs 6) (p := okF) (a := 0) (b := 62) (c := 2) j12 rf6_62
  exact all_of (p := okF) rf0 rf1 rf2 rf3 rf4 k5 j13 h
end Go.Proofs.YtcjephdjemapbaaDoor

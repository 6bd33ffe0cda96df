/-
  QuirePairs: all folds.
  Conditions: none; lemmas.
-/
import Derived.Test.YtcjephdjemapbaaDoorPairsA
import Derived.Test.YtcjephdjemapbaaDoorPairsB
import Derived.Test.YtcjephdjemapbaaDoorPairsC
import Derived.Test.YtcjephdjemapbaaDoorPairsD
set_option linter.unusedSimpArgs false
set_option linter.unusedVariables false
namespace Go.Proofs.YtcjephdjemapbaaDoor
open Go.Abs Go.Pur
set_option maxRecDepth 100000
theorem okP_all {l : List UInt8} (h : checkE l = 0) : okP l = true := by
  have k5 : (((strs 5).drop 0).take 32).all okP = true := all_join (L := strs 5) (p := okP) (a := 0) (b := 16) (c := 16) rp5a rp5b
  have j0 : (((strs 6).drop 0).take 13).all okP = true := all_join (L := strs 6) (p := okP) (a := 0) (b := 8) (c := 5) rp6_0 rp6_8
  have j1 : (((strs 6).drop 0).take 21).all okP = true := all_join (L := strs 6) (p := okP) (a := 0) (b := 13) (c := 8) j0 rp6_13
  have j2 : (((strs 6).drop 0).take 29).all okP = true := all_join (L := strs 6) (p := okP) (a := 0) (b := 21) (c := 8) j1 rp6_21
  have j3 : (((strs 6).drop 0).take 30).all okP = true := all_join (L := strs 6) (p := okP) (a := 0) (b := 29) (c := 1) j2 rp6_29
  have j4 : (((strs 6).drop 0).take 38).all okP = true := all_join (L := strs 6) (p := okP) (a := 0) (b := 30) (c := 8) j3 rp6_30
  have j5 : (((strs 6).drop 0).take 46).all okP = true := all_join (L := strs 6) (p := okP) (a := 0) (b := 38) (c := 8) j4 rp6_38
  have j6 : (((strs 6).drop 0).take 47).all okP = true := all_join (L := strs 6) (p := okP) (a := 0) (b := 46) (c := 1) j5 rp6_46
  have j7 : (((strs 6).drop 0).take 55).all okP = true := all_join (L := strs 6) (p := okP) (a := 0) (b := 47) (c := 8) j6 rp6_47
  have j8 : (((strs 6).drop 0).take 63).all okP = true := all_join (L := strs 6) (p := okP) (a := 0) (b := 55) (c := 8) j7 rp6_55
  have j9 : (((strs 6).drop 0).take 64).all okP = true := all_join (L := strs 6) (p := okP) (a := 0) (b := 63) (c := 1) j8 rp6_63
  exact all_of (p := okP) rp0 rp1 rp2 rp3 rp4 k5 j9 h
end Go.Proofs.YtcjephdjemapbaaDoor

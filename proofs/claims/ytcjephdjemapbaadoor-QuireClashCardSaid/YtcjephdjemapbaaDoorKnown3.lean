/-
  What is known of exchanged, as a fact of the pure evaluator.
  Conditions: none; lemmas.
-/
import Derived.Test.YtcjephdjemapbaaDoorPurBase
import Derived.Test.YtcjephdjemapbaaDoorPurG
import Derived.Test.YtcjephdjemapbaaDoorPurM
set_option linter.unusedSimpArgs false
set_option linter.unusedVariables false
namespace Go.Proofs.YtcjephdjemapbaaDoor
open Go.Abs Go.Pur
def txtO : Option (List KR) → Option (List UInt8)
 | some [.p (.string s)] => some s.data.toList
 | _ => none
theorem known_txt {args : List PV} {ks : List KA} {r : List UInt8} {hp : List (Option (List PV))} (ha : paArgs args = some ks) (h : txtO (e54 ks) = some r) : E Tryd.prog Y0 54 args hp = some (.v (.string (bs r)), hp, none) := by
 refine E_known rfl ?_
 show libP e54 args hp = _
 unfold libP
 rw [ha]
 unfold txtO at h
 split at h
 ·rename_i s e
  cases h
  simp only [e]
  rfl
 ·cases h
def f54O (l : List UInt8) (a b : Int) : Option (List UInt8) := txtO (e54 [.p (.string (bs l)), .p (.int .i32 a), .p (.int .i32 b)])
theorem f54_is {l : List UInt8} {a b : Int} {r : List UInt8} {hp : List (Option (List PV))} (h : f54O l a b = some r) : E Tryd.prog Y0 54 [.v (.string (bs l)), .v (.int .i32 a), .v (.int .i32 b)] hp = some (.v (.string (bs r)), hp, none) := known_txt rfl h
end Go.Proofs.YtcjephdjemapbaaDoor

/-
  Contracts that were walked by hand, in the form of those that are printed.
  Conditions: none; lemmas.
-/
import Derived.Test.YtcjephdjemapbaaDoorCreases
import Derived.Test.YtcjephdjemapbaaDoorArr
set_option linter.unusedSimpArgs false
set_option linter.unusedVariables false
namespace Go.Proofs.YtcjephdjemapbaaDoor
open Go.Abs Go.Pur
set_option maxRecDepth 100000
def creasesO (l : List UInt8) : Option (List UInt8) := if l.length ≤ 6 then some (creasesL l) else none
theorem f57_is {p0 : List UInt8} {hp : List (Option (List PV))} {r : List UInt8} (h : creasesO p0 = some r) : E Tryd.prog Y0 57 [.v (.string (bs p0))] hp = some (.v (.string (bs r)), hp, none) := by
 unfold creasesO at h
 split at h
 ·rename_i hl
  obtain rfl := inj_ok h
  exact creases_is hl
 ·cases h
def pileO (l : List UInt8) : Option (Ck × List Int) := if l.length ≤ 6 then some (pileC l, pileL l) else none
theorem f55_is {p0 : List UInt8} {hp : List (Option (List PV))} {r : Ck × List Int} (h : pileO p0 = some r) : E Tryd.prog Y0 55 [.v (.string (bs p0))] hp = some (.l .fz r.1 r.2.length (r.2.map iv), hp, none) := by
 unfold pileO at h
 split at h
 ·rename_i hl
  obtain rfl := inj_ok h
  exact pile_is hl
 ·cases h
def tzO (z : Int) : Option Int := match z with
 | .ofNat s => if 0 < s ∧ s < 65 then some (tzN s) else none
 | .negSucc _ => none
theorem f87_is {p0 : Int} {hp : List (Option (List PV))} {r : Int} (h : tzO p0 = some r) : E Tryd.prog Y0 87 [kv .u64 p0] hp = some (iv r, hp, none) := by
 cases p0 with
 | negSucc k => cases h
 | ofNat s =>
  unfold tzO at h
  simp only at h
  split at h
  ·rename_i hl
   obtain rfl := inj_ok h
   exact tz_is hl.2 (by omega)
  ·cases h
theorem f60_is {p0 : List UInt8} {most : Nat} {a b : UInt8} {x : Int} {hp : List (Option (List PV))} (h : lettersE p0 most a b = x) (hm : most < 1000 := by decide) (ha : a.toNat < 128 := by decide) (hb : b.toNat < 128 := by decide) : E Tryd.prog Y0 60 [.v (.string (bs p0)), iv most, .v (.string (bs [a, b]))] hp = some (iv x, hp, none) := by
 subst h
 exact written_is hm ha hb
theorem f27_is {p0 : List UInt8} {x : Int} {hp : List (Option (List PV))} (h : checkE p0 = x) : E Tryd.prog Y0 27 [.v (.string (bs p0))] hp = some (iv x, hp, none) := by
 subst h
 exact check_is
end Go.Proofs.YtcjephdjemapbaaDoor

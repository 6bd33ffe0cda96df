/-
  Contracts that were walked by hand, in the form of those that are printed: Run and Standing.
  Conditions: none; definitions and lemmas.
-/
import Derived.Test.YtcdhajbhpnbdkaaDoorAdapt
set_option linter.unusedSimpArgs false
set_option linter.unusedVariables false
namespace Go.Proofs.YtcdhajbhpnbdkaaDoor
open Go.Abs Go.Pur
set_option maxRecDepth 100000
theorem job_ok {α : Type} {x : Option (Option α)} {r : α} (h : x.bind id = some r) : x = some (some r) := by
 cases x with
 | none => cases h
 | some y => exact congrArg some h
theorem f19_is {p0a : Int} {p0b p1 : List Int} {c0b c1 : Ck} {a1 : Bool} {hp : List (Option (List PV))} {r : Int × Int} (h : (onS p0b (onS p1 (floorsOf p0a p0b p1).2)).bind id = some r) :
  E Tryd.prog Y0 19 [.a [iv p0a, .l .fz c0b p0b.length (p0b.map iv)], .l (ak a1) c1 p1.length (p1.map iv)] hp = some (.t [iv r.1, iv r.2], hp, none) := by
 obtain ⟨h1, h⟩ := onS_ok (job_ok h)
 obtain ⟨h2, rfl⟩ := onS_ok h
 exact run_is h1 h2
def standL (l : List Nat) : List (Ck × List Int) := l.map fun s => (Ck.nz, bitsL s)
theorem f21_is {p0a : Int} {p0b p1 : List Int} {c0b c1 : Ck} {a1 : Bool} {hp : List (Option (List PV))} {r : List (Ck × List Int) × Int} (h : (onS p0b (onS p1 (standL (floorsOf p0a p0b p1).1, (floorsOf p0a p0b p1).2.2))).bind id = some r) :
  E Tryd.prog Y0 21 [.a [iv p0a, .l .fz c0b p0b.length (p0b.map iv)], .l (ak a1) c1 p1.length (p1.map iv)] hp = some (.t [.l .fz .nz r.1.length (r.1.map lv), iv r.2], hp, none) := by
 obtain ⟨h1, h⟩ := onS_ok (job_ok h)
 obtain ⟨h2, rfl⟩ := onS_ok h
 have := @standing_is p0a p0b p1 a1 c0b c1 hp h1 h2 floorsOf_small
 rw [this]
 unfold standL
 rw [List.map_map, List.map_map, List.length_map]
 rfl
end Go.Proofs.YtcdhajbhpnbdkaaDoor

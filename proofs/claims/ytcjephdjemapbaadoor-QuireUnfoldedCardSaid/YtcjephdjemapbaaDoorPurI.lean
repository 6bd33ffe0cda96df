/-
  More plain pieces of what functions compute: a list from a place on.
  Conditions: none; definitions and lemmas.
-/
import Derived.Test.YtcjephdjemapbaaDoorPurG
set_option linter.unusedSimpArgs false
set_option linter.unusedVariables false
set_option linter.unusedSectionVars false
namespace Go.Pur
open Go.Abs
def dpC : Ck → Ck
 | .full => .full
 | _ => .any
def dropO {α : Type} (l : List α) (i : Int) : Option (List α) := match i with
 | .ofNat k => match Nat.ble k l.length with
  | true => some (l.drop k)
  | false => none
 | .negSucc _ => none
theorem pslice_drop {α : Type} {l x : List α} {i : Int} (f : α → PV) {P : Program} {t e : TypeId} {k : Vl} {c : Ck} (hs : shapeOf P t = some (.slice e 1)) (hk : notOwn k = true) (h : dropO l i = some x) :
  pqSlice P t (.l k c l.length (l.map f)) (some (.int .i64 i)) none none = some (.l (prt k) (dpC c) x.length (x.map f)) := by
 cases i with
 | negSucc k => cases h
 | ofNat j =>
  unfold dropO at h
  cases hb : Nat.ble j l.length with
  | false => simp [hb] at h
  | true =>
   have h1 := Nat.le_of_ble_eq_true hb
   simp [hb] at h
   subst h
   unfold pqSlice
   rw [hs]
   simp only []
   unfold pslice
   have e1 : natOfO 0 l.length 0 (some (.int .i64 (Int.ofNat j))) = some j := by
    show (match Nat.ble 0 j && Nat.ble j l.length with | true => some j | false => none) = some j
    simp only [nble, Nat.zero_le, decide_true, h1, Bool.and_self]
   have e2 : natOfO 0 l.length l.length none = some l.length := rfl
   simp only [e2, e1, nble, Nat.le_refl, decide_true, hiOk, hk, Nat.mul_one, List.length_map, Bool.and_self]
   have e3 : ((l.map f).drop j).take (l.length - j) = (l.map f).drop j := by rw [List.take_of_length_le]; simp
   cases c <;> simp [slCk, dpC, capK, nbeq, e3, List.map_drop]
end Go.Pur

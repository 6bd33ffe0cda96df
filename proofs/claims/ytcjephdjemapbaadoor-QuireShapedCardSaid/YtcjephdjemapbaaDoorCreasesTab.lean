/-
  Tables: numbers of creases, all folds, pairs of creases.
  Conditions: none; lemmas.
-/
import Derived.Test.YtcjephdjemapbaaDoorStripTab0
set_option linter.unusedSimpArgs false
set_option linter.unusedVariables false
namespace Go.Proofs.YtcjephdjemapbaaDoor
open Go.Abs Go.Pur
set_option maxRecDepth 100000
def kOf (n : Nat) : Option Nat := (List.range 7).find? fun k => Nat.beq (n + 1) (2 ^ k)
abbrev rep (n : Nat) : List UInt8 := List.replicate n 118
def ok62 (n : Nat) : Bool := match f62S fuel (rep n), f63S fuel (rep n), f65S fuel (IntKind.i64.wrap ((n : Int) + 1)), kOf n with
  | some (a, b), some c, some d, some k => decide (a = (k : Int)) && decide (b = 0) && decide (c = 0) && decide (d = (k : Int)) && Nat.beq (n + 1) (2 ^ k) && Nat.ble k 6
  | some (a, b), some c, _, none => decide (a = 0) && decide (b = 5) && decide (c = 5)
  | _, _, _, _ => false
theorem tab62 : (List.range 64).all ok62 = true := by kernel_rfl
def allS : Nat → List (List UInt8)
  | 0 => [[]]
  | k + 1 => (allS k).flatMap fun r => [r ++ [111], r ++ [117]]
def beqLS : List (List UInt8) → List (List UInt8) → Bool
  | [], [] => true
  | a :: l, b :: m => match beqS a b with
    | true => beqLS l m
    | false => false
  | _, _ => false
theorem beqLS_ok : ∀ {l m : List (List UInt8)}, beqLS l m = true → l = m
  | [], [], _ => rfl
  | a :: l, b :: m, h => by
    unfold beqLS at h
    cases hb : beqS a b with
    | false => simp [hb] at h
    | true =>
      simp [hb] at h
      rw [beqS_ok hb, beqLS_ok h]
  | [], _ :: _, h => by cases h
  | _ :: _, [], h => by cases h
def rdU (l : List UInt8) (k f : Nat) : UInt8 := if (l.getD (2 ^ (k - 1 - f) - 1) 0).toNat = 118 then 111 else 117
def rdF (l : List UInt8) (k : Nat) : List UInt8 := (List.range k).map (rdU l k)
def okA (k : Nat) : Bool := (match f64S fuel fuel (k : Int) with
    | some (_, L) => beqLS L (allS k)
    | none => false) && (allS k).all (fun y => decide (checkE y = 0) && Nat.beq y.length k && beqS (rdF (creasesL y) k) y) && (strs k).all fun s => (allS k).any (beqS s)
theorem tabA : (List.range 7).all okA = true := by kernel_rfl
def alt (j : Nat) : List UInt8 := (List.replicate 63 118).set j 104
def ok67 (i j : Nat) : Bool := Nat.ble j i || ((match f66S fuel (rep 63) i j, f67S fuel (rep 63) i j with
    | some a, some b => a == b
    | _, _ => false) && (match f66S fuel (alt j) i j, f67S fuel (alt j) i j with
    | some a, some b => a == b
    | _, _ => false))
theorem tab67a : (List.range 20).all (fun i => (List.range 63).all fun j => ok67 i j) = true := by kernel_rfl
theorem tab67b : (List.range 20).all (fun i => (List.range 63).all fun j => ok67 (20 + i) j) = true := by kernel_rfl
theorem tab67c : (List.range 23).all (fun i => (List.range 63).all fun j => ok67 (40 + i) j) = true := by kernel_rfl
end Go.Proofs.YtcjephdjemapbaaDoor

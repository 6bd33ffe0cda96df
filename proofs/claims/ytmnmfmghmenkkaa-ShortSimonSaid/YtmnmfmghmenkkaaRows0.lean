/-
  The parts of a word by size, as short.all finds them.
  Conditions: none; definitions.
-/
import Derived.Test.YtmnmfmghmenkkaaPurK
import Derived.Test.YtmnmfmghmenkkaaPurM
set_option linter.unusedSimpArgs false
set_option linter.unusedVariables false
namespace Go.Proofs.Ytmnmfmghmenkkaa
open Go.Abs Go.Pur
abbrev Rws := Nat → List (List UInt8)
def addR (k : Nat) (r : Rws) (p : List UInt8) : Rws := if p ∈ r k then r else fun i => if i = k then r k ++ [p] else r i
def rowJ (x : UInt8) (k : Nat) (r : Rws) (j : Nat) : Rws := ((r (k - 1)).take j).foldl (fun r p => addR k r (p ++ [x])) r
def rowK (x : UInt8) (k : Nat) (r : Rws) : Rws := rowJ x k r (r (k - 1)).length
def rowsD (x : UInt8) (r : Rws) : Nat → Nat → Rws
 | 0, _ => r
 | d + 1, n => rowsD x (rowK x n r) d (n - 1)
def rows0 : Rws := fun i => if i = 0 then [[]] else []
def allR (n : Nat) (l : List UInt8) : Rws := l.foldl (fun r x => rowsD x r n n) rows0
abbrev srt (l : List (List UInt8)) : List (List UInt8) := l.mergeSort fun x y => decide (x ≤ y)
def slt (a b : List UInt8) : Prop := a.length < b.length ∨ (a.length = b.length ∧ a < b)
instance {a b : List UInt8} : Decidable (slt a b) := by unfold slt; infer_instance
def dif49 (m1 m2 : Mp (List UInt8) Int) (k : List UInt8) : Bool := decide (0 < mGetD 0 k m1) != decide (0 < mGetD 0 k m2)
def Bst (D : List UInt8 → Bool) (L : List (List UInt8)) (b : List UInt8) (is : Bool) : Prop := match is with
 | false => b = [] ∧ ∀ k ∈ L, D k = false
 | true => b ∈ L ∧ D b = true ∧ ∀ k ∈ L, D k = true → ¬ slt k b
def bst (D : List UInt8 → Bool) : List (List UInt8) → List UInt8 × Bool → List UInt8 × Bool
 | [], s => s
 | k :: l, (b, is) => bst D l (match D k && (!is || decide (slt k b)) with
  | true => (k, true)
  | false => (b, is))
def decM : List MapEntry → Option (Mp (List UInt8) Int)
 | [] => some []
 | e :: l => match e.key, e.val, decM l with
  | .string s, .int .i64 v, some r => some ((s.data.toList, v, e.born) :: r)
  | _, _, _ => none
def stOK (c : Nat) (m : Mp (List UInt8) Int) : Bool := decide (∀ s ∈ m.map (fun e : List UInt8 × Int × Nat => e.2.2), s < c) && decide ((m.map (fun e : List UInt8 × Int × Nat => e.2.2)).Nodup)
def fst49 (m1 m2 : Mp (List UInt8) Int) : List UInt8 × Bool := bst (dif49 m1 m2) (m1.map (·.1) ++ m2.map (·.1)) ([], false)
def lets (k : Nat) : List UInt8 := (List.range k).map fun j => UInt8.ofNat (97 + j)
def bhd : List UInt8 → UInt8 → Option (List UInt8)
 | [], _ => none
 | x :: w, c => if x = c then some w else bhd w c
abbrev Way := Nat × Nat × List UInt8
def nxN (w : List UInt8) (i : Nat) (c : UInt8) : Option Nat := (bhd (w.drop i) c).map fun w' => w.length - w'.length
def nxI (w : List UInt8) (i : Nat) (c : UInt8) : Int := match nxN w i c with
 | some k => (k : Int)
 | none => -1
def stL (a b : List UInt8) (i j : Nat) (part : List UInt8) : List UInt8 → List (Nat × Nat) → List Way → Option (List UInt8) × List (Nat × Nat) × List Way
 | [], m, q => (none, m, q)
 | c :: cs, m, q => match nxN a i c, nxN b j c with
  | some x, some y => if (x, y) ∈ m then stL a b i j part cs m q else stL a b i j part cs ((x, y) :: m) (q ++ [(x, y, part ++ [c])])
  | none, none => stL a b i j part cs m q
  | _, _ => (some (part ++ [c]), m, q)
def bfs (a b : List UInt8) (most : Int) : Nat → List (Nat × Nat) → List Way → Option (List UInt8)
 | 0, _, _ => none
 | n + 1, m, [] => none
 | n + 1, m, (i, j, part) :: q => if (part.length : Int) < most then (match stL a b i j part (lets 6) m q with
   | (some r, _, _) => some r
   | (none, m', q') => bfs a b most n m' q') else none
def bfs0 (a b : List UInt8) (most : Int) : Option (List UInt8) := bfs a b most 200 [(0, 0)] [(0, 0, [])]
end Go.Proofs.Ytmnmfmghmenkkaa

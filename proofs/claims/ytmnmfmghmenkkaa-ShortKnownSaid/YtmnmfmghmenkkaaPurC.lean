/-
  What simp needs to carry the pure evaluator through code with symbolic values.
  Unary operations, operations on bits, for the pure evaluator's walk.
  From a call of the pure evaluator that answers true to the row's own words.
  Arguments of a law, as the row reads them, for the pure evaluator.
  Conditions: none; definitions and lemmas.
-/
import Derived.Test.YtmnmfmghmenkkaaPurB
import Derived.Carry
import Derived.Deep.Slices
set_option linter.unusedSimpArgs false
set_option linter.unusedVariables false
set_option linter.unusedSectionVars false
namespace Go.Pur
open Go.Abs
section
variable {p : Pl} {b : Bool} {c : Ck} {n : Nat} {cs : List PV}
end
section
variable {sz : TypeId → Option Nat} {base t : Nat} {hp : List (Option (List PV))}
end
section
variable {P : Program} {Y : Pol} {f : FuncId} {nt : Nat} {k : List Fm}
end
section
variable {k : IntKind} {a b : Int}
end
section
variable {p : Pl}
end
section
variable {p : Pl} {es : List MapEntry} {c d : Nat} {ls : List (Nat × PV)}
end
section
variable {b : Nat}
end
end Go.Pur
namespace Go.Pur
open Go.Abs
section
variable {P : Program} {t : TypeId} {x y : Operand}
end
section
variable {α : Type} {l r : List α} {k : Nat} {v : α}
end
end Go.Pur
namespace Go.Pur
open Go.Abs Go.RowKit
inductive CellIn (W : World) : Value → PV → Prop where
 | plain (x : Value) (hp : Abs.plain x = true) (hn : ∀ n c, x ≠ .slice none n c) : CellIn W x (.v x)
 | nil : CellIn W (.slice none 0 0) (.l .fz .any 0 [])
 | slice (a : Addr) (n cap : Nat) (xs : List Value) (hn : n ≤ cap) (hc : n < unkCap) (h0 : n = 0 → xs = []) (h1 : n ≠ 0 → xs ≠ []) (hx : ∀ k v, xs[k]? = some v → W.cell? (a.add k) = some v ∧ Abs.plain v = true ∧ ∀ n c, v ≠ .slice none n c) : CellIn W (.slice (some a) n cap) (.l .fz .any n (xs.map .v))
inductive CellsIn (W : World) : List Value → List PV → Prop where
 | nil : CellsIn W [] []
 | cons (v : Value) (u : PV) (vs : List Value) (us : List PV) (h : CellIn W v u) (ht : CellsIn W vs us) : CellsIn W (v :: vs) (u :: us)
inductive ArgIn (W : World) : Value → PV → Prop where
 | one (v : Value) (u : PV) (h : CellIn W v u) : ArgIn W v u
 | agg (cs : Array Value) (us : List PV) (h : CellsIn W cs.toList us) : ArgIn W (.agg cs) (.a us)
section
variable {P : Program} {W : World} {Y : Pol}
inductive ArgsIn (W : World) : List Value → List PV → Prop where
 | nil : ArgsIn W [] []
 | cons (v : Value) (u : PV) (vs : List Value) (us : List PV) (h : ArgIn W v u) (ht : ArgsIn W vs us) : ArgsIn W (v :: vs) (u :: us)
end
end Go.Pur
namespace Go.Pur
open Go.Abs Go.RowKit Go.ChangeShapes Go.WideShapes
section
variable {H : Type} {enc : TypeId × Value → H} {P : Program} {W : World} {held : Bool}
end
end Go.Pur

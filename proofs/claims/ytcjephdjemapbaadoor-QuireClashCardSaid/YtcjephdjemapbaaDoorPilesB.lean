/-
  QuirePiles: folds read off piles are as stated.
  Conditions: none; lemmas.
-/
import Derived.Test.YtcjephdjemapbaaDoorCreasesB
set_option linter.unusedSimpArgs false
set_option linter.unusedVariables false
namespace Go.Proofs.YtcjephdjemapbaaDoor
open Go.Abs Go.Pur
set_option maxRecDepth 100000
def chk (n : Nat) : List Int → List Int → Int
 | [], _ => 0
 | y :: r, seen => if y < 0 then 2 else if (n : Int) ≤ y then 2 else if y ∈ seen then 6 else chk n r (seen ++ [y])
section
variable {F : Nat} {p : List Int} {K : Unit → Option (List UInt8 × Int)}
end
end Go.Proofs.YtcjephdjemapbaaDoor

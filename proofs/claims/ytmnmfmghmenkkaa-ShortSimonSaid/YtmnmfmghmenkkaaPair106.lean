/-
  Pairs of numbers as keys of a map.
  Conditions: none; lemmas.
-/
import Derived.Test.YtmnmfmghmenkkaaPurBase
import Derived.Test.YtmnmfmghmenkkaaPurM
set_option linter.unusedSimpArgs false
set_option linter.unusedVariables false
namespace Go.Proofs.Ytmnmfmghmenkkaa
open Go.Abs Go.Pur
set_option maxRecDepth 100000
def pV2 (p : Int × Int) : Value := .agg #[.int .i64 p.1, .int .i64 p.2]
theorem prun_prog {P : Program} : prun P (program) = some P := rfl
theorem held106 : Try.prog.stoodInHeld 106 = false := by kernel_rfl
theorem part0 {a b : Int} : prun Try.prog (part 3 #[.int .i64 a, .int .i64 b] 0) = some (.int .i64 a) := by kernel_rfl
theorem part1 {a b : Int} : prun Try.prog (part 3 #[.int .i64 a, .int .i64 b] 1) = some (.int .i64 b) := by kernel_rfl
theorem eqint {k : Nat} {a b : Int} : prun Try.prog (Op.equalIn (k + 1) 3 (.int .i64 a) (.int .i64 b)) = some (decide (a = b)) := by
 rw [Op.equalIn]
 rw [prun_bind _ _ (prun_und Try.underlying3)]
 rfl
theorem equal106 {k : Nat} {a b c d : Int} : prun Try.prog (Op.equalIn (k + 1 + 1) 106 (.agg #[.int .i64 a, .int .i64 b]) (.agg #[.int .i64 c, .int .i64 d])) = some (decide (a = c) && decide (b = d)) := by
 rw [Op.equalIn]
 simp [prun_bnd, prun_pure, prun_und Try.underlying106, prun_prog, held106]
 rw [part0, part0]
 dsimp only
 rw [eqint]
 by_cases h1 : a = c
 ·rw [decide_eq_true h1]
  simp [prun_bnd, prun_pure, part1, eqint, h1]
  by_cases h2 : b = d
  ·simp [h2, prun_pure]
  ·simp [h2, prun_pure]
 ·rw [decide_eq_false h1]
  simp [prun_bnd, prun_pure, h1]
theorem ask_pair {W : Type} {vf : W → Value} {p : Int × Int} : ∀ {l : Mp (Int × Int) W} {i : Nat}, prun Try.prog (Instr.findAsking 106 (pV2 p) (mE pV2 vf l) i) = some ((mIdx p l i).map fun q => (q.1, vf q.2))
 | [], i => rfl
 | e :: l, i => by
  show prun Try.prog (Instr.findAsking 106 (pV2 p) (⟨pV2 e.1, vf e.2.1, e.2.2⟩ :: mE pV2 vf l) i) = _
  rw [Instr.findAsking]
  have he : prun Try.prog (Op.equal 106 (pV2 p) (pV2 e.1)) = some (decide (e.1 = p)) := by
   unfold Op.equal pV2
   rw [show Op.maxDepth = 9998 + 1 + 1 from rfl, equal106]
   congr 1
   obtain ⟨a, b⟩ := p
   obtain ⟨⟨c, d⟩, v, s⟩ := e
   by_cases h1 : a = c
   ·by_cases h2 : b = d
    ·subst h1 h2; simp
    ·have : ¬ (c, d) = (a, b) := fun h => h2 (by simpa using (Prod.mk.inj h).2.symm)
     rw [decide_eq_false h2, decide_eq_false this]; simp
   ·have : ¬ (c, d) = (a, b) := fun h => h1 (by simpa using (Prod.mk.inj h).1.symm)
    rw [decide_eq_false h1, decide_eq_false this]; simp
  rw [prun_bind _ _ he, mIdx]
  cases decide (e.1 = p) with
  | true => rfl
  | false =>
   simp only [Bool.false_eq_true, if_false]
   exact ask_pair
theorem key_pair : KeyT Try.prog 106 pV2 := by
 refine ⟨fun emp k => by cases emp <;> kernel_rfl, fun {W} vf l k => ?_, fun k => ?_, fun k => rfl⟩
 ·unfold Instr.findKey
  rw [prun_bind _ _ (prun_und Try.underlying106)]
  cases l with
  | nil => rfl
  | cons e l =>
   exact ask_pair (l := e :: l) (i := 0)
 ·unfold pV2
  show ((IntKind.i64 == IntKind.i64 && k.1 == k.1) && ((IntKind.i64 == IntKind.i64 && k.2 == k.2) && true)) = true
  simp
end Go.Proofs.Ytmnmfmghmenkkaa

/-
  QuireFolds: all folds, and what is no fold.
  Conditions: none; lemmas.
-/
import Derived.Test.YtcjephdjemapbaaDoorFoldsAll
import Derived.Test.YtcjephdjemapbaaDoorWalksLaw
set_option linter.unusedSimpArgs false
set_option linter.unusedVariables false
namespace Go.Proofs.YtcjephdjemapbaaDoor
open Go.Abs Go.Pur
set_option maxRecDepth 100000
theorem folds_good {l : List UInt8} (h : checkE l = 0) : f3S fuel l = some true := by
  have := okF_all h
  unfold okF at this
  cases e : f3S fuel l with
  | none => rw [e] at this; cases this
  | some b =>
    rw [e] at this
    cases b with
    | true => rfl
    | false => cases this
theorem folds_law (l : List UInt8) : f3S fuel l = some true := by
  by_cases e : checkE l = 0
  · exact folds_good e
  · unfold f3S
    by_cases h : 100 < (l.length : Int)
    · simp only [Option.bind_some, decide_eq_true h, works_true]
    · simp only [Option.bind_some, decide_eq_false h]
      have q1 : f18S fuel l = some ((.nz, []), checkE l) := by unfold f18S; simp [e]
      have q2 : f19S fuel l = some ((.nz, []), checkE l) := by unfold f19S; simp [e]
      have q3 : f20S fuel l = some ((.nz, []), (.nz, []), checkE l) := by unfold f20S; simp [e]
      have q4 : f21S fuel l = some ((.nz, []), (.nz, []), checkE l) := by unfold f21S; simp [e]
      have q5 : f23S fuel l = some ([], checkE l) := by unfold f23S; simp [e]
      have q6 : f24S fuel l = some ([], checkE l) := by unfold f24S; simp [e]
      have q7 : f25S fuel l = some (0, 0, checkE l) := by unfold f25S; simp [e]
      have q8 : f26S fuel l = some (0, 0, checkE l) := by unfold f26S; simp [q6, e]
      have q9 : sameO ([] : List Int) [] = some true := rfl
      simp only [q1, q2, q3, q4, q5, q6, q7, q8, q9, Option.bind_some, decide_true, works_true]
theorem quireFolds_is (s : ByteArray) : E Tryd.prog Y0 3 [.v (.string s)] [] = some (.v (.bool true), [], none) := by
  have : s = bs s.data.toList := by simp
  rw [this]
  exact f3_is (folds_law _)
end Go.Proofs.YtcjephdjemapbaaDoor

/-
  The chapter's examples hold: closed runs of the abstract evaluator.
  Conditions: none; lemmas.
-/
import Derived.Test.YtmnmfmghmenkkaaArgs
set_option linter.unusedSimpArgs false
set_option linter.unusedVariables false
namespace Go.Proofs.Ytmnmfmghmenkkaa
open Go.Abs Go.Pur Go.ChangeShapes Go.WideShapes Go.ChangeAt Go.RowKit
set_option maxRecDepth 100000
noncomputable def yesRun (f : FuncId) : Bool := match run Try.prog noO 100000 f [] (heapOf tabs) with
 | some (.bool true, _) => true
 | _ => false
theorem yes_run {f : FuncId} (h : yesRun f = true) : ∃ h', run Try.prog noO 100000 f [] (heapOf tabs) = some (.bool true, h') := by
 unfold yesRun at h
 split at h
 ·rename_i h' e; exact ⟨h', e⟩
 ·cases h
theorem yes_calls {f : FuncId} (h : yesRun f = true) {W : World} (hS : W.ShapedOpen Try.prog) : Calls Try.prog f #[] W fun e W' => e = .returned (.bool true) ∧ Below W.heap.size W W' := by
 obtain ⟨h', hr⟩ := yes_run h
 have hR := start hS [] [] rfl (fun i B L hB => by simp at hB)
 simp only [List.append_nil] at hR
 exact call_true mix noO_ext noO_ok hR tabs_wr (LRel.nil _) hr
end Go.Proofs.Ytmnmfmghmenkkaa

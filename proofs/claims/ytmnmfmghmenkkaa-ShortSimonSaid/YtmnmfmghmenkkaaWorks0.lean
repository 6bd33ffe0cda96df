/-
  The chapter's examples hold in every world: a closed run of the abstract evaluator.
  Conditions: none; lemmas.
-/
import Derived.Test.YtmnmfmghmenkkaaBase
import Derived.Test.YtmnmfmghmenkkaaPurBase
set_option linter.unusedSimpArgs false
set_option linter.unusedVariables false
namespace Go.Proofs.Ytmnmfmghmenkkaa
open Go.Abs Go.Pur
set_option maxRecDepth 100000
noncomputable def yesBare (f : FuncId) : Bool := match run Try.prog noO 100000 f [] (bare Try.prog) with
 | some (.bool true, _) => true
 | _ => false
theorem works_bare : yesBare 17 = true := by kernel_rfl
theorem yes_bare {f : FuncId} (h : yesBare f = true) : ∃ h', run Try.prog noO 100000 f [] (bare Try.prog) = some (.bool true, h') := by
 unfold yesBare at h
 split at h
 ·rename_i h' e; exact ⟨h', e⟩
 ·cases h
theorem ok17 : FnOK Try.prog Y0 17 := by
 obtain ⟨h', hr⟩ := yes_bare works_bare
 refine fnOK_lib e17 rfl (bare_true mix hr).1 (fun xs rs he m h w hR args hd => ?_)
 cases xs with
 | cons a l => cases he
 | nil =>
  cases he
  cases hd
  exact ((bare_true mix hr).2 hR).mono fun e w' ⟨h1, h2⟩ => ⟨[.bool true], h1, h2, .cons _ _ _ _ (.p _) .nil⟩
end Go.Proofs.Ytmnmfmghmenkkaa

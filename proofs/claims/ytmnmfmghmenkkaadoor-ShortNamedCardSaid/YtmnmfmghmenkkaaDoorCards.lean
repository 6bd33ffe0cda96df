/-
  DERIVED. GIVEN WITH THE SEED: THE CARDS: each row of YtmnmfmghmenkkaaDoorRows.lean that lists a variable, with what it lists TIED to the program's text (the seventh form; the later family's looks); each row that meets fmt, with fmt's text TOLD by the authors' own Lean function (tested against real Go, not proved from fmt's source: count such statements apart). THE CARD IS WHAT COUNTS. Prove the row's statement (the work); the ties are given (YtmnmfmghmenkkaaDoorTie.lean); close each card by the builder's one call (the guide's Derived/Test/ToyasCard.lean, 'card_holds'). Laid BY PROGRAM, IN A SANDBOX (cutbox-door.mjs). By AI agents, Wed Nov 11 2026. No macro, syntax, notation, axiom, sorry.
-/
import Derived.Test.YtmnmfmghmenkkaaDoorRows
import GoSem.ClaimSeven
namespace Go.Proofs.YtmnmfmghmenkkaaDoor
namespace Rows

/-- THE TIED CARD OF 'headwordlaw01.ShortNamed'. -/
def shortNamedCard : Claim7 := { stood := { row := shortNamedRow, standIns := [], harness := (true, "22ff084dbd7daf8e5a335dc5ccb9e86ab00026e2f28179d215cd745e0f60c4f5"), looks := false }, kinds := [], alts := [], laidByText := true, laidKinds := [.data, .pinned], laidTests := true, laidLooks := .later }
def ShortNamedCardSaid : Prop := Claim7.holds Tryd.pinned (.plain (OpenSpec.ofChange shortNamedSpec)) shortNamedCard

/-- THE SECOND FORM's CARD OF 'headwordlaw01.ShortNamed'. -/
def shortNamedUptoCard : Claim7 := { stood := { row := shortNamedUptoRow, standIns := [], harness := (true, "22ff084dbd7daf8e5a335dc5ccb9e86ab00026e2f28179d215cd745e0f60c4f5"), looks := false }, kinds := [], alts := [], laidByText := true, laidKinds := [.data, .pinned], laidTests := true, laidLooks := .later }
def ShortNamedUptoCardSaid : Prop := Claim7.holds Tryd.pinned (.plain (OpenSpec.upto shortNamedSpec)) shortNamedUptoCard
end Rows
end Go.Proofs.YtmnmfmghmenkkaaDoor

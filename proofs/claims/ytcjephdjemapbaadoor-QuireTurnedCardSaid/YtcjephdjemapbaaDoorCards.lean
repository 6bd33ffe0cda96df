/-
  DERIVED. GIVEN WITH THE SEED: THE CARDS: each row of YtcjephdjemapbaaDoorRows.lean that lists a variable, with what it lists TIED to the program's text (the seventh form; the later family's looks); each row that meets fmt, with fmt's text TOLD by the authors' own Lean function (tested against real Go, not proved from fmt's source: count such statements apart). THE CARD IS WHAT COUNTS. Prove the row's statement (the work); the ties are given (YtcjephdjemapbaaDoorTie.lean); close each card by the builder's one call (the guide's Derived/Test/ToyasCard.lean, 'card_holds'). Laid BY PROGRAM, IN A SANDBOX (cutbox-door.mjs). By AI agents, Wed Nov 11 2026. No macro, syntax, notation, axiom, sorry.
-/
import Derived.Test.YtcjephdjemapbaaDoorRows
import GoSem.ClaimSeven
namespace Go.Proofs.YtcjephdjemapbaaDoor
namespace Rows

/-- THE TIED CARD OF 'headwordlaw03.QuireFolds'. -/
def quireFoldsCard : Claim7 := { stood := { row := quireFoldsRow, standIns := [], harness := (true, "aebf782ca8f6ad0c2393850f005cfed30c5dc04741ab7a63bbc17585002fe13d"), looks := false }, kinds := [], alts := [], laidByText := true, laidKinds := [.data, .data, .data, .pinned], laidTests := true, laidLooks := .later }
def QuireFoldsCardSaid : Prop := Claim7.holds Tryd.pinned (.plain (OpenSpec.ofChange quireFoldsSpec)) quireFoldsCard

/-- THE TIED CARD OF 'headwordlaw03.QuireCreases'. -/
def quireCreasesCard : Claim7 := { stood := { row := quireCreasesRow, standIns := [], harness := (true, "aebf782ca8f6ad0c2393850f005cfed30c5dc04741ab7a63bbc17585002fe13d"), looks := false }, kinds := [], alts := [], laidByText := true, laidKinds := [.data, .data, .data, .pinned], laidTests := true, laidLooks := .later }
def QuireCreasesCardSaid : Prop := Claim7.holds Tryd.pinned (.plain (OpenSpec.ofChange quireCreasesSpec)) quireCreasesCard

/-- THE TIED CARD OF 'headwordlaw03.QuireWalks'. -/
def quireWalksCard : Claim7 := { stood := { row := quireWalksRow, standIns := [], harness := (true, "aebf782ca8f6ad0c2393850f005cfed30c5dc04741ab7a63bbc17585002fe13d"), looks := false }, kinds := [], alts := [], laidByText := true, laidKinds := [.data, .data, .data, .pinned], laidTests := true, laidLooks := .later }
def QuireWalksCardSaid : Prop := Claim7.holds Tryd.pinned (.plain (OpenSpec.ofChange quireWalksSpec)) quireWalksCard

/-- THE TIED CARD OF 'headwordlaw03.QuirePiles'. -/
def quirePilesCard : Claim7 := { stood := { row := quirePilesRow, standIns := [], harness := (true, "aebf782ca8f6ad0c2393850f005cfed30c5dc04741ab7a63bbc17585002fe13d"), looks := false }, kinds := [], alts := [], laidByText := true, laidKinds := [.data, .data, .data, .pinned], laidTests := true, laidLooks := .later }
def QuirePilesCardSaid : Prop := Claim7.holds Tryd.pinned (.plain (OpenSpec.ofChange quirePilesSpec)) quirePilesCard

/-- THE TIED CARD OF 'headwordlaw03.QuireDragon'. -/
def quireDragonCard : Claim7 := { stood := { row := quireDragonRow, standIns := [], harness := (true, "aebf782ca8f6ad0c2393850f005cfed30c5dc04741ab7a63bbc17585002fe13d"), looks := false }, kinds := [], alts := [], laidByText := true, laidKinds := [.data, .data, .data, .pinned], laidTests := true, laidLooks := .later }
def QuireDragonCardSaid : Prop := Claim7.holds Tryd.pinned (.plain (OpenSpec.ofChange quireDragonSpec)) quireDragonCard

/-- THE TIED CARD OF 'headwordlaw03.QuireLanes'. -/
def quireLanesCard : Claim7 := { stood := { row := quireLanesRow, standIns := [], harness := (true, "aebf782ca8f6ad0c2393850f005cfed30c5dc04741ab7a63bbc17585002fe13d"), looks := false }, kinds := [], alts := [], laidByText := true, laidKinds := [.data, .data, .data, .pinned], laidTests := true, laidLooks := .later }
def QuireLanesCardSaid : Prop := Claim7.holds Tryd.pinned (.plain (OpenSpec.ofChange quireLanesSpec)) quireLanesCard

/-- THE TIED CARD OF 'headwordlaw03.QuireTried'. -/
def quireTriedCard : Claim7 := { stood := { row := quireTriedRow, standIns := [], harness := (true, "aebf782ca8f6ad0c2393850f005cfed30c5dc04741ab7a63bbc17585002fe13d"), looks := false }, kinds := [], alts := [], laidByText := true, laidKinds := [.data, .data, .data, .pinned], laidTests := true, laidLooks := .later }
def QuireTriedCardSaid : Prop := Claim7.holds Tryd.pinned (.plain (OpenSpec.ofChange quireTriedSpec)) quireTriedCard

/-- THE TIED CARD OF 'headwordlaw03.QuireMirror'. -/
def quireMirrorCard : Claim7 := { stood := { row := quireMirrorRow, standIns := [], harness := (true, "aebf782ca8f6ad0c2393850f005cfed30c5dc04741ab7a63bbc17585002fe13d"), looks := false }, kinds := [], alts := [], laidByText := true, laidKinds := [.data, .data, .data, .pinned], laidTests := true, laidLooks := .later }
def QuireMirrorCardSaid : Prop := Claim7.holds Tryd.pinned (.plain (OpenSpec.ofChange quireMirrorSpec)) quireMirrorCard

/-- THE TIED CARD OF 'headwordlaw03.QuirePairs'. -/
def quirePairsCard : Claim7 := { stood := { row := quirePairsRow, standIns := [], harness := (true, "aebf782ca8f6ad0c2393850f005cfed30c5dc04741ab7a63bbc17585002fe13d"), looks := false }, kinds := [], alts := [], laidByText := true, laidKinds := [.data, .data, .data, .pinned], laidTests := true, laidLooks := .later }
def QuirePairsCardSaid : Prop := Claim7.holds Tryd.pinned (.plain (OpenSpec.ofChange quirePairsSpec)) quirePairsCard

/-- THE TIED CARD OF 'headwordlaw03.QuireKnown'. -/
def quireKnownCard : Claim7 := { stood := { row := quireKnownRow, standIns := [], harness := (true, "aebf782ca8f6ad0c2393850f005cfed30c5dc04741ab7a63bbc17585002fe13d"), looks := false }, kinds := [], alts := [], laidByText := true, laidKinds := [.data, .data, .data, .pinned], laidTests := true, laidLooks := .later }
def QuireKnownCardSaid : Prop := Claim7.holds Tryd.pinned (.plain (OpenSpec.ofChange quireKnownSpec)) quireKnownCard

/-- THE TIED CARD OF 'headwordlaw03.QuireShaped'. -/
def quireShapedCard : Claim7 := { stood := { row := quireShapedRow, standIns := [], harness := (true, "aebf782ca8f6ad0c2393850f005cfed30c5dc04741ab7a63bbc17585002fe13d"), looks := false }, kinds := [], alts := [], laidByText := true, laidKinds := [.data, .data, .data, .pinned], laidTests := true, laidLooks := .later }
def QuireShapedCardSaid : Prop := Claim7.holds Tryd.pinned (.plain (OpenSpec.ofChange quireShapedSpec)) quireShapedCard

/-- THE TIED CARD OF 'headwordlaw03.QuireUnfolded'. -/
def quireUnfoldedCard : Claim7 := { stood := { row := quireUnfoldedRow, standIns := [], harness := (true, "aebf782ca8f6ad0c2393850f005cfed30c5dc04741ab7a63bbc17585002fe13d"), looks := false }, kinds := [], alts := [], laidByText := true, laidKinds := [.data, .data, .data, .pinned], laidTests := true, laidLooks := .later }
def QuireUnfoldedCardSaid : Prop := Claim7.holds Tryd.pinned (.plain (OpenSpec.ofChange quireUnfoldedSpec)) quireUnfoldedCard

/-- THE TIED CARD OF 'headwordlaw03.QuireClash'. -/
def quireClashCard : Claim7 := { stood := { row := quireClashRow, standIns := [], harness := (true, "aebf782ca8f6ad0c2393850f005cfed30c5dc04741ab7a63bbc17585002fe13d"), looks := false }, kinds := [], alts := [], laidByText := true, laidKinds := [.data, .data, .data, .pinned], laidTests := true, laidLooks := .later }
def QuireClashCardSaid : Prop := Claim7.holds Tryd.pinned (.plain (OpenSpec.ofChange quireClashSpec)) quireClashCard

/-- THE TIED CARD OF 'headwordlaw03.QuireTurned'. -/
def quireTurnedCard : Claim7 := { stood := { row := quireTurnedRow, standIns := [], harness := (true, "aebf782ca8f6ad0c2393850f005cfed30c5dc04741ab7a63bbc17585002fe13d"), looks := false }, kinds := [], alts := [], laidByText := true, laidKinds := [.data, .data, .data, .pinned], laidTests := true, laidLooks := .later }
def QuireTurnedCardSaid : Prop := Claim7.holds Tryd.pinned (.plain (OpenSpec.ofChange quireTurnedSpec)) quireTurnedCard

/-- THE SECOND FORM's CARD OF 'headwordlaw03.QuireFolds'. -/
def quireFoldsUptoCard : Claim7 := { stood := { row := quireFoldsUptoRow, standIns := [], harness := (true, "aebf782ca8f6ad0c2393850f005cfed30c5dc04741ab7a63bbc17585002fe13d"), looks := false }, kinds := [], alts := [], laidByText := true, laidKinds := [.data, .data, .data, .pinned], laidTests := true, laidLooks := .later }
def QuireFoldsUptoCardSaid : Prop := Claim7.holds Tryd.pinned (.plain (OpenSpec.upto quireFoldsSpec)) quireFoldsUptoCard

/-- THE SECOND FORM's CARD OF 'headwordlaw03.QuireCreases'. -/
def quireCreasesUptoCard : Claim7 := { stood := { row := quireCreasesUptoRow, standIns := [], harness := (true, "aebf782ca8f6ad0c2393850f005cfed30c5dc04741ab7a63bbc17585002fe13d"), looks := false }, kinds := [], alts := [], laidByText := true, laidKinds := [.data, .data, .data, .pinned], laidTests := true, laidLooks := .later }
def QuireCreasesUptoCardSaid : Prop := Claim7.holds Tryd.pinned (.plain (OpenSpec.upto quireCreasesSpec)) quireCreasesUptoCard

/-- THE SECOND FORM's CARD OF 'headwordlaw03.QuireWalks'. -/
def quireWalksUptoCard : Claim7 := { stood := { row := quireWalksUptoRow, standIns := [], harness := (true, "aebf782ca8f6ad0c2393850f005cfed30c5dc04741ab7a63bbc17585002fe13d"), looks := false }, kinds := [], alts := [], laidByText := true, laidKinds := [.data, .data, .data, .pinned], laidTests := true, laidLooks := .later }
def QuireWalksUptoCardSaid : Prop := Claim7.holds Tryd.pinned (.plain (OpenSpec.upto quireWalksSpec)) quireWalksUptoCard

/-- THE SECOND FORM's CARD OF 'headwordlaw03.QuirePiles'. -/
def quirePilesUptoCard : Claim7 := { stood := { row := quirePilesUptoRow, standIns := [], harness := (true, "aebf782ca8f6ad0c2393850f005cfed30c5dc04741ab7a63bbc17585002fe13d"), looks := false }, kinds := [], alts := [], laidByText := true, laidKinds := [.data, .data, .data, .pinned], laidTests := true, laidLooks := .later }
def QuirePilesUptoCardSaid : Prop := Claim7.holds Tryd.pinned (.plain (OpenSpec.upto quirePilesSpec)) quirePilesUptoCard

/-- THE SECOND FORM's CARD OF 'headwordlaw03.QuireDragon'. -/
def quireDragonUptoCard : Claim7 := { stood := { row := quireDragonUptoRow, standIns := [], harness := (true, "aebf782ca8f6ad0c2393850f005cfed30c5dc04741ab7a63bbc17585002fe13d"), looks := false }, kinds := [], alts := [], laidByText := true, laidKinds := [.data, .data, .data, .pinned], laidTests := true, laidLooks := .later }
def QuireDragonUptoCardSaid : Prop := Claim7.holds Tryd.pinned (.plain (OpenSpec.upto quireDragonSpec)) quireDragonUptoCard

/-- THE SECOND FORM's CARD OF 'headwordlaw03.QuireLanes'. -/
def quireLanesUptoCard : Claim7 := { stood := { row := quireLanesUptoRow, standIns := [], harness := (true, "aebf782ca8f6ad0c2393850f005cfed30c5dc04741ab7a63bbc17585002fe13d"), looks := false }, kinds := [], alts := [], laidByText := true, laidKinds := [.data, .data, .data, .pinned], laidTests := true, laidLooks := .later }
def QuireLanesUptoCardSaid : Prop := Claim7.holds Tryd.pinned (.plain (OpenSpec.upto quireLanesSpec)) quireLanesUptoCard

/-- THE SECOND FORM's CARD OF 'headwordlaw03.QuireTried'. -/
def quireTriedUptoCard : Claim7 := { stood := { row := quireTriedUptoRow, standIns := [], harness := (true, "aebf782ca8f6ad0c2393850f005cfed30c5dc04741ab7a63bbc17585002fe13d"), looks := false }, kinds := [], alts := [], laidByText := true, laidKinds := [.data, .data, .data, .pinned], laidTests := true, laidLooks := .later }
def QuireTriedUptoCardSaid : Prop := Claim7.holds Tryd.pinned (.plain (OpenSpec.upto quireTriedSpec)) quireTriedUptoCard

/-- THE SECOND FORM's CARD OF 'headwordlaw03.QuireMirror'. -/
def quireMirrorUptoCard : Claim7 := { stood := { row := quireMirrorUptoRow, standIns := [], harness := (true, "aebf782ca8f6ad0c2393850f005cfed30c5dc04741ab7a63bbc17585002fe13d"), looks := false }, kinds := [], alts := [], laidByText := true, laidKinds := [.data, .data, .data, .pinned], laidTests := true, laidLooks := .later }
def QuireMirrorUptoCardSaid : Prop := Claim7.holds Tryd.pinned (.plain (OpenSpec.upto quireMirrorSpec)) quireMirrorUptoCard

/-- THE SECOND FORM's CARD OF 'headwordlaw03.QuirePairs'. -/
def quirePairsUptoCard : Claim7 := { stood := { row := quirePairsUptoRow, standIns := [], harness := (true, "aebf782ca8f6ad0c2393850f005cfed30c5dc04741ab7a63bbc17585002fe13d"), looks := false }, kinds := [], alts := [], laidByText := true, laidKinds := [.data, .data, .data, .pinned], laidTests := true, laidLooks := .later }
def QuirePairsUptoCardSaid : Prop := Claim7.holds Tryd.pinned (.plain (OpenSpec.upto quirePairsSpec)) quirePairsUptoCard

/-- THE SECOND FORM's CARD OF 'headwordlaw03.QuireKnown'. -/
def quireKnownUptoCard : Claim7 := { stood := { row := quireKnownUptoRow, standIns := [], harness := (true, "aebf782ca8f6ad0c2393850f005cfed30c5dc04741ab7a63bbc17585002fe13d"), looks := false }, kinds := [], alts := [], laidByText := true, laidKinds := [.data, .data, .data, .pinned], laidTests := true, laidLooks := .later }
def QuireKnownUptoCardSaid : Prop := Claim7.holds Tryd.pinned (.plain (OpenSpec.upto quireKnownSpec)) quireKnownUptoCard

/-- THE SECOND FORM's CARD OF 'headwordlaw03.QuireShaped'. -/
def quireShapedUptoCard : Claim7 := { stood := { row := quireShapedUptoRow, standIns := [], harness := (true, "aebf782ca8f6ad0c2393850f005cfed30c5dc04741ab7a63bbc17585002fe13d"), looks := false }, kinds := [], alts := [], laidByText := true, laidKinds := [.data, .data, .data, .pinned], laidTests := true, laidLooks := .later }
def QuireShapedUptoCardSaid : Prop := Claim7.holds Tryd.pinned (.plain (OpenSpec.upto quireShapedSpec)) quireShapedUptoCard

/-- THE SECOND FORM's CARD OF 'headwordlaw03.QuireUnfolded'. -/
def quireUnfoldedUptoCard : Claim7 := { stood := { row := quireUnfoldedUptoRow, standIns := [], harness := (true, "aebf782ca8f6ad0c2393850f005cfed30c5dc04741ab7a63bbc17585002fe13d"), looks := false }, kinds := [], alts := [], laidByText := true, laidKinds := [.data, .data, .data, .pinned], laidTests := true, laidLooks := .later }
def QuireUnfoldedUptoCardSaid : Prop := Claim7.holds Tryd.pinned (.plain (OpenSpec.upto quireUnfoldedSpec)) quireUnfoldedUptoCard

/-- THE SECOND FORM's CARD OF 'headwordlaw03.QuireClash'. -/
def quireClashUptoCard : Claim7 := { stood := { row := quireClashUptoRow, standIns := [], harness := (true, "aebf782ca8f6ad0c2393850f005cfed30c5dc04741ab7a63bbc17585002fe13d"), looks := false }, kinds := [], alts := [], laidByText := true, laidKinds := [.data, .data, .data, .pinned], laidTests := true, laidLooks := .later }
def QuireClashUptoCardSaid : Prop := Claim7.holds Tryd.pinned (.plain (OpenSpec.upto quireClashSpec)) quireClashUptoCard

/-- THE SECOND FORM's CARD OF 'headwordlaw03.QuireTurned'. -/
def quireTurnedUptoCard : Claim7 := { stood := { row := quireTurnedUptoRow, standIns := [], harness := (true, "aebf782ca8f6ad0c2393850f005cfed30c5dc04741ab7a63bbc17585002fe13d"), looks := false }, kinds := [], alts := [], laidByText := true, laidKinds := [.data, .data, .data, .pinned], laidTests := true, laidLooks := .later }
def QuireTurnedUptoCardSaid : Prop := Claim7.holds Tryd.pinned (.plain (OpenSpec.upto quireTurnedSpec)) quireTurnedUptoCard
end Rows
end Go.Proofs.YtcjephdjemapbaaDoor

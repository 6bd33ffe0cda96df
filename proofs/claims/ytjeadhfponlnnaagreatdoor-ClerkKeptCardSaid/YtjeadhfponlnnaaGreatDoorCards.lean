/-
  DERIVED. GIVEN WITH THE SEED: THE CARDS: each row of YtjeadhfponlnnaaGreatDoorRows.lean that lists a variable, with what it lists TIED to the program's text (the seventh form; the later family's looks); each row that meets fmt, with fmt's text TOLD by the authors' own Lean function (tested against real Go, not proved from fmt's source: count such statements apart). THE CARD IS WHAT COUNTS. Prove the row's statement (the work); the ties are given (YtjeadhfponlnnaaGreatDoorTie.lean); close each card by the builder's one call (the guide's Derived/Test/ToyasCard.lean, 'card_holds'). Laid BY PROGRAM, IN A SANDBOX (cutbox-door.mjs). By AI agents, Wed Nov 11 2026. No macro, syntax, notation, axiom, sorry.
-/
import Derived.Test.YtjeadhfponlnnaaGreatDoorRows
import GoSem.ClaimSeven
namespace Go.Proofs.YtjeadhfponlnnaaGreatDoor
namespace Rows

/-- THE TIED CARD OF 'headwordlaw14.ClerkTells'. -/
def clerkTellsCard : Claim7 := { stood := { row := clerkTellsRow, standIns := [], harness := (true, "0b5e1ee5ee01d6ffc6446d2fee2c968d2f9d64956129245e846d56933248ca78"), looks := true }, kinds := [], alts := [], laidByText := true, laidKinds := [.data, .data, .data, .data, .sentinel, .sentinel, .pinned], laidTests := true, laidLooks := .later }
def ClerkTellsCardSaid : Prop := Claim7.holds Tryz.pinned (.plain (OpenSpec.ofChange clerkTellsSpec)) clerkTellsCard

/-- THE TIED CARD OF 'headwordlaw14.ClerkLimits'. -/
def clerkLimitsCard : Claim7 := { stood := { row := clerkLimitsRow, standIns := [], harness := (true, "0b5e1ee5ee01d6ffc6446d2fee2c968d2f9d64956129245e846d56933248ca78"), looks := true }, kinds := [], alts := [], laidByText := true, laidKinds := [.data, .data, .data, .data, .sentinel, .sentinel, .pinned], laidTests := true, laidLooks := .later }
def ClerkLimitsCardSaid : Prop := Claim7.holds Tryz.pinned (.plain (OpenSpec.ofChange clerkLimitsSpec)) clerkLimitsCard

/-- THE TIED CARD OF 'headwordlaw14.ClerkReads'. -/
def clerkReadsCard : Claim7 := { stood := { row := clerkReadsRow, standIns := [], harness := (true, "0b5e1ee5ee01d6ffc6446d2fee2c968d2f9d64956129245e846d56933248ca78"), looks := true }, kinds := [], alts := [], laidByText := true, laidKinds := [.data, .data, .data, .data, .sentinel, .sentinel, .pinned], laidTests := true, laidLooks := .later }
def ClerkReadsCardSaid : Prop := Claim7.holds Tryz.pinned (.plain (OpenSpec.ofChange clerkReadsSpec)) clerkReadsCard

/-- THE TIED CARD OF 'headwordlaw14.ClerkKnown'. -/
def clerkKnownCard : Claim7 := { stood := { row := clerkKnownRow, standIns := [], harness := (true, "0b5e1ee5ee01d6ffc6446d2fee2c968d2f9d64956129245e846d56933248ca78"), looks := true }, kinds := [], alts := [], laidByText := true, laidKinds := [.data, .data, .data, .data, .sentinel, .sentinel, .pinned], laidTests := true, laidLooks := .later }
def ClerkKnownCardSaid : Prop := Claim7.holds Tryz.pinned (.plain (OpenSpec.ofChange clerkKnownSpec)) clerkKnownCard

/-- THE TIED CARD OF 'headwordlaw14.ClerkVolumes'. -/
def clerkVolumesCard : Claim7 := { stood := { row := clerkVolumesRow, standIns := [], harness := (true, "0b5e1ee5ee01d6ffc6446d2fee2c968d2f9d64956129245e846d56933248ca78"), looks := true }, kinds := [], alts := [], laidByText := true, laidKinds := [.data, .data, .data, .data, .sentinel, .sentinel, .listed, .data, .pinned], laidTests := true, laidLooks := .later }
def ClerkVolumesCardSaid : Prop := Claim7.holds Tryz.pinned (.plain (OpenSpec.ofChange clerkVolumesSpec)) clerkVolumesCard

/-- THE TIED CARD OF 'headwordlaw14.ClerkForms'. -/
def clerkFormsCard : Claim7 := { stood := { row := clerkFormsRow, standIns := [], harness := (true, "0b5e1ee5ee01d6ffc6446d2fee2c968d2f9d64956129245e846d56933248ca78"), looks := true }, kinds := [], alts := [], laidByText := true, laidKinds := [.data, .data, .data, .data, .sentinel, .sentinel, .listed, .data, .pinned], laidTests := true, laidLooks := .later }
def ClerkFormsCardSaid : Prop := Claim7.holds Tryz.pinned (.plain (OpenSpec.ofChange clerkFormsSpec)) clerkFormsCard

/-- THE TIED CARD OF 'headwordlaw14.ClerkKept'. -/
def clerkKeptCard : Claim7 := { stood := { row := clerkKeptRow, standIns := [], harness := (true, "0b5e1ee5ee01d6ffc6446d2fee2c968d2f9d64956129245e846d56933248ca78"), looks := true }, kinds := [], alts := [], laidByText := true, laidKinds := [.data, .data, .data, .data, .sentinel, .sentinel, .listed, .data, .pinned], laidTests := true, laidLooks := .later }
def ClerkKeptCardSaid : Prop := Claim7.holds Tryz.pinned (.plain (OpenSpec.ofChange clerkKeptSpec)) clerkKeptCard

/-- THE TIED CARD OF 'headwordlaw14.ClerkWays'. -/
def clerkWaysCard : Claim7 := { stood := { row := clerkWaysRow, standIns := [], harness := (true, "0b5e1ee5ee01d6ffc6446d2fee2c968d2f9d64956129245e846d56933248ca78"), looks := true }, kinds := [], alts := [], laidByText := true, laidKinds := [.data, .data, .data, .data, .sentinel, .sentinel, .listed, .data, .pinned], laidTests := true, laidLooks := .later }
def ClerkWaysCardSaid : Prop := Claim7.holds Tryz.pinned (.plain (OpenSpec.ofChange clerkWaysSpec)) clerkWaysCard

/-- THE TIED CARD OF 'headwordlaw14.ClerkUndone'. -/
def clerkUndoneCard : Claim7 := { stood := { row := clerkUndoneRow, standIns := [], harness := (true, "0b5e1ee5ee01d6ffc6446d2fee2c968d2f9d64956129245e846d56933248ca78"), looks := true }, kinds := [], alts := [], laidByText := true, laidKinds := [.data, .data, .data, .data, .sentinel, .sentinel, .listed, .data, .pinned, .pinned, .pinned, .pinned, .pinned, .pinned], laidTests := true, laidLooks := .later }
def ClerkUndoneCardSaid : Prop := Claim7.holds Tryz.pinned (.plain (OpenSpec.ofChange clerkUndoneSpec)) clerkUndoneCard

/-- THE TIED CARD OF 'headwordlaw14.ClerkCopied'. -/
def clerkCopiedCard : Claim7 := { stood := { row := clerkCopiedRow, standIns := [], harness := (true, "0b5e1ee5ee01d6ffc6446d2fee2c968d2f9d64956129245e846d56933248ca78"), looks := true }, kinds := [], alts := [], laidByText := true, laidKinds := [.data, .data, .data, .data, .sentinel, .sentinel, .listed, .data, .pinned, .pinned, .pinned, .pinned, .pinned, .pinned], laidTests := true, laidLooks := .later }
def ClerkCopiedCardSaid : Prop := Claim7.holds Tryz.pinned (.plain (OpenSpec.ofChange clerkCopiedSpec)) clerkCopiedCard

/-- THE TIED CARD OF 'headwordlaw14.ClerkPlayed'. -/
def clerkPlayedCard : Claim7 := { stood := { row := clerkPlayedRow, standIns := [], harness := (true, "0b5e1ee5ee01d6ffc6446d2fee2c968d2f9d64956129245e846d56933248ca78"), looks := true }, kinds := [], alts := [], laidByText := true, laidKinds := [.data, .data, .data, .data, .sentinel, .sentinel, .listed, .data, .pinned, .pinned, .pinned, .pinned, .pinned, .pinned], laidTests := true, laidLooks := .later }
def ClerkPlayedCardSaid : Prop := Claim7.holds Tryz.pinned (.plain (OpenSpec.ofChange clerkPlayedSpec)) clerkPlayedCard

/-- THE SECOND FORM's CARD OF 'headwordlaw14.ClerkTells'. -/
def clerkTellsUptoCard : Claim7 := { stood := { row := clerkTellsUptoRow, standIns := [], harness := (true, "0b5e1ee5ee01d6ffc6446d2fee2c968d2f9d64956129245e846d56933248ca78"), looks := true }, kinds := [], alts := [], laidByText := true, laidKinds := [.data, .data, .data, .data, .sentinel, .sentinel, .pinned], laidTests := true, laidLooks := .later }
def ClerkTellsUptoCardSaid : Prop := Claim7.holds Tryz.pinned (.plain (OpenSpec.upto clerkTellsSpec)) clerkTellsUptoCard

/-- THE SECOND FORM's CARD OF 'headwordlaw14.ClerkLimits'. -/
def clerkLimitsUptoCard : Claim7 := { stood := { row := clerkLimitsUptoRow, standIns := [], harness := (true, "0b5e1ee5ee01d6ffc6446d2fee2c968d2f9d64956129245e846d56933248ca78"), looks := true }, kinds := [], alts := [], laidByText := true, laidKinds := [.data, .data, .data, .data, .sentinel, .sentinel, .pinned], laidTests := true, laidLooks := .later }
def ClerkLimitsUptoCardSaid : Prop := Claim7.holds Tryz.pinned (.plain (OpenSpec.upto clerkLimitsSpec)) clerkLimitsUptoCard

/-- THE SECOND FORM's CARD OF 'headwordlaw14.ClerkReads'. -/
def clerkReadsUptoCard : Claim7 := { stood := { row := clerkReadsUptoRow, standIns := [], harness := (true, "0b5e1ee5ee01d6ffc6446d2fee2c968d2f9d64956129245e846d56933248ca78"), looks := true }, kinds := [], alts := [], laidByText := true, laidKinds := [.data, .data, .data, .data, .sentinel, .sentinel, .pinned], laidTests := true, laidLooks := .later }
def ClerkReadsUptoCardSaid : Prop := Claim7.holds Tryz.pinned (.plain (OpenSpec.upto clerkReadsSpec)) clerkReadsUptoCard

/-- THE SECOND FORM's CARD OF 'headwordlaw14.ClerkKnown'. -/
def clerkKnownUptoCard : Claim7 := { stood := { row := clerkKnownUptoRow, standIns := [], harness := (true, "0b5e1ee5ee01d6ffc6446d2fee2c968d2f9d64956129245e846d56933248ca78"), looks := true }, kinds := [], alts := [], laidByText := true, laidKinds := [.data, .data, .data, .data, .sentinel, .sentinel, .pinned], laidTests := true, laidLooks := .later }
def ClerkKnownUptoCardSaid : Prop := Claim7.holds Tryz.pinned (.plain (OpenSpec.upto clerkKnownSpec)) clerkKnownUptoCard

/-- THE SECOND FORM's CARD OF 'headwordlaw14.ClerkVolumes'. -/
def clerkVolumesUptoCard : Claim7 := { stood := { row := clerkVolumesUptoRow, standIns := [], harness := (true, "0b5e1ee5ee01d6ffc6446d2fee2c968d2f9d64956129245e846d56933248ca78"), looks := true }, kinds := [], alts := [], laidByText := true, laidKinds := [.data, .data, .data, .data, .sentinel, .sentinel, .listed, .data, .pinned], laidTests := true, laidLooks := .later }
def ClerkVolumesUptoCardSaid : Prop := Claim7.holds Tryz.pinned (.plain (OpenSpec.upto clerkVolumesSpec)) clerkVolumesUptoCard

/-- THE SECOND FORM's CARD OF 'headwordlaw14.ClerkForms'. -/
def clerkFormsUptoCard : Claim7 := { stood := { row := clerkFormsUptoRow, standIns := [], harness := (true, "0b5e1ee5ee01d6ffc6446d2fee2c968d2f9d64956129245e846d56933248ca78"), looks := true }, kinds := [], alts := [], laidByText := true, laidKinds := [.data, .data, .data, .data, .sentinel, .sentinel, .listed, .data, .pinned], laidTests := true, laidLooks := .later }
def ClerkFormsUptoCardSaid : Prop := Claim7.holds Tryz.pinned (.plain (OpenSpec.upto clerkFormsSpec)) clerkFormsUptoCard

/-- THE SECOND FORM's CARD OF 'headwordlaw14.ClerkKept'. -/
def clerkKeptUptoCard : Claim7 := { stood := { row := clerkKeptUptoRow, standIns := [], harness := (true, "0b5e1ee5ee01d6ffc6446d2fee2c968d2f9d64956129245e846d56933248ca78"), looks := true }, kinds := [], alts := [], laidByText := true, laidKinds := [.data, .data, .data, .data, .sentinel, .sentinel, .listed, .data, .pinned], laidTests := true, laidLooks := .later }
def ClerkKeptUptoCardSaid : Prop := Claim7.holds Tryz.pinned (.plain (OpenSpec.upto clerkKeptSpec)) clerkKeptUptoCard

/-- THE SECOND FORM's CARD OF 'headwordlaw14.ClerkWays'. -/
def clerkWaysUptoCard : Claim7 := { stood := { row := clerkWaysUptoRow, standIns := [], harness := (true, "0b5e1ee5ee01d6ffc6446d2fee2c968d2f9d64956129245e846d56933248ca78"), looks := true }, kinds := [], alts := [], laidByText := true, laidKinds := [.data, .data, .data, .data, .sentinel, .sentinel, .listed, .data, .pinned], laidTests := true, laidLooks := .later }
def ClerkWaysUptoCardSaid : Prop := Claim7.holds Tryz.pinned (.plain (OpenSpec.upto clerkWaysSpec)) clerkWaysUptoCard

/-- THE SECOND FORM's CARD OF 'headwordlaw14.ClerkUndone'. -/
def clerkUndoneUptoCard : Claim7 := { stood := { row := clerkUndoneUptoRow, standIns := [], harness := (true, "0b5e1ee5ee01d6ffc6446d2fee2c968d2f9d64956129245e846d56933248ca78"), looks := true }, kinds := [], alts := [], laidByText := true, laidKinds := [.data, .data, .data, .data, .sentinel, .sentinel, .listed, .data, .pinned, .pinned, .pinned, .pinned, .pinned, .pinned], laidTests := true, laidLooks := .later }
def ClerkUndoneUptoCardSaid : Prop := Claim7.holds Tryz.pinned (.plain (OpenSpec.upto clerkUndoneSpec)) clerkUndoneUptoCard

/-- THE SECOND FORM's CARD OF 'headwordlaw14.ClerkCopied'. -/
def clerkCopiedUptoCard : Claim7 := { stood := { row := clerkCopiedUptoRow, standIns := [], harness := (true, "0b5e1ee5ee01d6ffc6446d2fee2c968d2f9d64956129245e846d56933248ca78"), looks := true }, kinds := [], alts := [], laidByText := true, laidKinds := [.data, .data, .data, .data, .sentinel, .sentinel, .listed, .data, .pinned, .pinned, .pinned, .pinned, .pinned, .pinned], laidTests := true, laidLooks := .later }
def ClerkCopiedUptoCardSaid : Prop := Claim7.holds Tryz.pinned (.plain (OpenSpec.upto clerkCopiedSpec)) clerkCopiedUptoCard

/-- THE SECOND FORM's CARD OF 'headwordlaw14.ClerkPlayed'. -/
def clerkPlayedUptoCard : Claim7 := { stood := { row := clerkPlayedUptoRow, standIns := [], harness := (true, "0b5e1ee5ee01d6ffc6446d2fee2c968d2f9d64956129245e846d56933248ca78"), looks := true }, kinds := [], alts := [], laidByText := true, laidKinds := [.data, .data, .data, .data, .sentinel, .sentinel, .listed, .data, .pinned, .pinned, .pinned, .pinned, .pinned, .pinned], laidTests := true, laidLooks := .later }
def ClerkPlayedUptoCardSaid : Prop := Claim7.holds Tryz.pinned (.plain (OpenSpec.upto clerkPlayedSpec)) clerkPlayedUptoCard
end Rows
end Go.Proofs.YtjeadhfponlnnaaGreatDoor

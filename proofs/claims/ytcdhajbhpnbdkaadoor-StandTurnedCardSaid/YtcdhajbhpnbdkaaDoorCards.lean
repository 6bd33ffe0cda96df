/-
  DERIVED. GIVEN WITH THE SEED: THE CARDS: each row of YtcdhajbhpnbdkaaDoorRows.lean that lists a variable, with what it lists TIED to the program's text (the seventh form; the later family's looks); each row that meets fmt, with fmt's text TOLD by the authors' own Lean function (tested against real Go, not proved from fmt's source: count such statements apart). THE CARD IS WHAT COUNTS. Prove the row's statement (the work); the ties are given (YtcdhajbhpnbdkaaDoorTie.lean); close each card by the builder's one call (the guide's Derived/Test/ToyasCard.lean, 'card_holds'). Laid BY PROGRAM, IN A SANDBOX (cutbox-door.mjs). By AI agents, Wed Nov 11 2026. No macro, syntax, notation, axiom, sorry.
-/
import Derived.Test.YtcdhajbhpnbdkaaDoorRows
import GoSem.ClaimSeven
namespace Go.Proofs.YtcdhajbhpnbdkaaDoor
namespace Rows

/-- THE TIED CARD OF 'headwordlaw06.StandRuns'. -/
def standRunsCard : Claim7 := { stood := { row := standRunsRow, standIns := [], harness := (true, "7fe546206ee7775e3887306d48d56ff64c0626f6146ed58b9d08b8a93a080da8"), looks := false }, kinds := [], alts := [], laidByText := true, laidKinds := [.data, .data], laidTests := true, laidLooks := .later }
def StandRunsCardSaid : Prop := Claim7.holds Tryd.pinned (.plain (OpenSpec.ofChange standRunsSpec)) standRunsCard

/-- THE TIED CARD OF 'headwordlaw06.StandRules'. -/
def standRulesCard : Claim7 := { stood := { row := standRulesRow, standIns := [], harness := (true, "7fe546206ee7775e3887306d48d56ff64c0626f6146ed58b9d08b8a93a080da8"), looks := false }, kinds := [], alts := [], laidByText := true, laidKinds := [.data, .data], laidTests := true, laidLooks := .later }
def StandRulesCardSaid : Prop := Claim7.holds Tryd.pinned (.plain (OpenSpec.ofChange standRulesSpec)) standRulesCard

/-- THE TIED CARD OF 'headwordlaw06.StandPlans'. -/
def standPlansCard : Claim7 := { stood := { row := standPlansRow, standIns := [], harness := (true, "7fe546206ee7775e3887306d48d56ff64c0626f6146ed58b9d08b8a93a080da8"), looks := false }, kinds := [], alts := [], laidByText := true, laidKinds := [.data, .data], laidTests := true, laidLooks := .later }
def StandPlansCardSaid : Prop := Claim7.holds Tryd.pinned (.plain (OpenSpec.ofChange standPlansSpec)) standPlansCard

/-- THE TIED CARD OF 'headwordlaw06.StandBounds'. -/
def standBoundsCard : Claim7 := { stood := { row := standBoundsRow, standIns := [], harness := (true, "7fe546206ee7775e3887306d48d56ff64c0626f6146ed58b9d08b8a93a080da8"), looks := false }, kinds := [], alts := [], laidByText := true, laidKinds := [.data, .data], laidTests := true, laidLooks := .later }
def StandBoundsCardSaid : Prop := Claim7.holds Tryd.pinned (.plain (OpenSpec.ofChange standBoundsSpec)) standBoundsCard

/-- THE TIED CARD OF 'headwordlaw06.StandBelady'. -/
def standBeladyCard : Claim7 := { stood := { row := standBeladyRow, standIns := [], harness := (true, "7fe546206ee7775e3887306d48d56ff64c0626f6146ed58b9d08b8a93a080da8"), looks := false }, kinds := [], alts := [], laidByText := true, laidKinds := [.data, .data], laidTests := true, laidLooks := .later }
def StandBeladyCardSaid : Prop := Claim7.holds Tryd.pinned (.plain (OpenSpec.ofChange standBeladySpec)) standBeladyCard

/-- THE TIED CARD OF 'headwordlaw06.StandLast'. -/
def standLastCard : Claim7 := { stood := { row := standLastRow, standIns := [], harness := (true, "7fe546206ee7775e3887306d48d56ff64c0626f6146ed58b9d08b8a93a080da8"), looks := false }, kinds := [], alts := [], laidByText := true, laidKinds := [.data, .data], laidTests := true, laidLooks := .later }
def StandLastCardSaid : Prop := Claim7.holds Tryd.pinned (.plain (OpenSpec.ofChange standLastSpec)) standLastCard

/-- THE TIED CARD OF 'headwordlaw06.StandBound'. -/
def standBoundCard : Claim7 := { stood := { row := standBoundRow, standIns := [], harness := (true, "7fe546206ee7775e3887306d48d56ff64c0626f6146ed58b9d08b8a93a080da8"), looks := false }, kinds := [], alts := [], laidByText := true, laidKinds := [.data, .data], laidTests := true, laidLooks := .later }
def StandBoundCardSaid : Prop := Claim7.holds Tryd.pinned (.plain (OpenSpec.ofChange standBoundSpec)) standBoundCard

/-- THE TIED CARD OF 'headwordlaw06.StandRoom'. -/
def standRoomCard : Claim7 := { stood := { row := standRoomRow, standIns := [], harness := (true, "7fe546206ee7775e3887306d48d56ff64c0626f6146ed58b9d08b8a93a080da8"), looks := false }, kinds := [], alts := [], laidByText := true, laidKinds := [.data, .data], laidTests := true, laidLooks := .later }
def StandRoomCardSaid : Prop := Claim7.holds Tryd.pinned (.plain (OpenSpec.ofChange standRoomSpec)) standRoomCard

/-- THE TIED CARD OF 'headwordlaw06.StandNamed'. -/
def standNamedCard : Claim7 := { stood := { row := standNamedRow, standIns := [], harness := (true, "7fe546206ee7775e3887306d48d56ff64c0626f6146ed58b9d08b8a93a080da8"), looks := false }, kinds := [], alts := [], laidByText := true, laidKinds := [.data, .data], laidTests := true, laidLooks := .later }
def StandNamedCardSaid : Prop := Claim7.holds Tryd.pinned (.plain (OpenSpec.ofChange standNamedSpec)) standNamedCard

/-- THE TIED CARD OF 'headwordlaw06.StandKnown'. -/
def standKnownCard : Claim7 := { stood := { row := standKnownRow, standIns := [], harness := (true, "7fe546206ee7775e3887306d48d56ff64c0626f6146ed58b9d08b8a93a080da8"), looks := false }, kinds := [], alts := [], laidByText := true, laidKinds := [.data, .data], laidTests := true, laidLooks := .later }
def StandKnownCardSaid : Prop := Claim7.holds Tryd.pinned (.plain (OpenSpec.ofChange standKnownSpec)) standKnownCard

/-- THE TIED CARD OF 'headwordlaw06.StandMore'. -/
def standMoreCard : Claim7 := { stood := { row := standMoreRow, standIns := [], harness := (true, "7fe546206ee7775e3887306d48d56ff64c0626f6146ed58b9d08b8a93a080da8"), looks := false }, kinds := [], alts := [], laidByText := true, laidKinds := [.data, .data], laidTests := true, laidLooks := .later }
def StandMoreCardSaid : Prop := Claim7.holds Tryd.pinned (.plain (OpenSpec.ofChange standMoreSpec)) standMoreCard

/-- THE TIED CARD OF 'headwordlaw06.StandPlayed'. -/
def standPlayedCard : Claim7 := { stood := { row := standPlayedRow, standIns := [], harness := (true, "7fe546206ee7775e3887306d48d56ff64c0626f6146ed58b9d08b8a93a080da8"), looks := false }, kinds := [], alts := [], laidByText := true, laidKinds := [.data, .data], laidTests := true, laidLooks := .later }
def StandPlayedCardSaid : Prop := Claim7.holds Tryd.pinned (.plain (OpenSpec.ofChange standPlayedSpec)) standPlayedCard

/-- THE TIED CARD OF 'headwordlaw06.StandTurned'. -/
def standTurnedCard : Claim7 := { stood := { row := standTurnedRow, standIns := [], harness := (true, "7fe546206ee7775e3887306d48d56ff64c0626f6146ed58b9d08b8a93a080da8"), looks := false }, kinds := [], alts := [], laidByText := true, laidKinds := [.data, .data], laidTests := true, laidLooks := .later }
def StandTurnedCardSaid : Prop := Claim7.holds Tryd.pinned (.plain (OpenSpec.ofChange standTurnedSpec)) standTurnedCard

/-- THE TIED CARD OF 'headwordlaw06.StandTimes'. -/
def standTimesCard : Claim7 := { stood := { row := standTimesRow, standIns := [], harness := (true, "7fe546206ee7775e3887306d48d56ff64c0626f6146ed58b9d08b8a93a080da8"), looks := false }, kinds := [], alts := [], laidByText := true, laidKinds := [.data, .data], laidTests := true, laidLooks := .later }
def StandTimesCardSaid : Prop := Claim7.holds Tryd.pinned (.plain (OpenSpec.ofChange standTimesSpec)) standTimesCard

/-- THE SECOND FORM's CARD OF 'headwordlaw06.StandRuns'. -/
def standRunsUptoCard : Claim7 := { stood := { row := standRunsUptoRow, standIns := [], harness := (true, "7fe546206ee7775e3887306d48d56ff64c0626f6146ed58b9d08b8a93a080da8"), looks := false }, kinds := [], alts := [], laidByText := true, laidKinds := [.data, .data], laidTests := true, laidLooks := .later }
def StandRunsUptoCardSaid : Prop := Claim7.holds Tryd.pinned (.plain (OpenSpec.upto standRunsSpec)) standRunsUptoCard

/-- THE SECOND FORM's CARD OF 'headwordlaw06.StandRules'. -/
def standRulesUptoCard : Claim7 := { stood := { row := standRulesUptoRow, standIns := [], harness := (true, "7fe546206ee7775e3887306d48d56ff64c0626f6146ed58b9d08b8a93a080da8"), looks := false }, kinds := [], alts := [], laidByText := true, laidKinds := [.data, .data], laidTests := true, laidLooks := .later }
def StandRulesUptoCardSaid : Prop := Claim7.holds Tryd.pinned (.plain (OpenSpec.upto standRulesSpec)) standRulesUptoCard

/-- THE SECOND FORM's CARD OF 'headwordlaw06.StandPlans'. -/
def standPlansUptoCard : Claim7 := { stood := { row := standPlansUptoRow, standIns := [], harness := (true, "7fe546206ee7775e3887306d48d56ff64c0626f6146ed58b9d08b8a93a080da8"), looks := false }, kinds := [], alts := [], laidByText := true, laidKinds := [.data, .data], laidTests := true, laidLooks := .later }
def StandPlansUptoCardSaid : Prop := Claim7.holds Tryd.pinned (.plain (OpenSpec.upto standPlansSpec)) standPlansUptoCard

/-- THE SECOND FORM's CARD OF 'headwordlaw06.StandBounds'. -/
def standBoundsUptoCard : Claim7 := { stood := { row := standBoundsUptoRow, standIns := [], harness := (true, "7fe546206ee7775e3887306d48d56ff64c0626f6146ed58b9d08b8a93a080da8"), looks := false }, kinds := [], alts := [], laidByText := true, laidKinds := [.data, .data], laidTests := true, laidLooks := .later }
def StandBoundsUptoCardSaid : Prop := Claim7.holds Tryd.pinned (.plain (OpenSpec.upto standBoundsSpec)) standBoundsUptoCard

/-- THE SECOND FORM's CARD OF 'headwordlaw06.StandBelady'. -/
def standBeladyUptoCard : Claim7 := { stood := { row := standBeladyUptoRow, standIns := [], harness := (true, "7fe546206ee7775e3887306d48d56ff64c0626f6146ed58b9d08b8a93a080da8"), looks := false }, kinds := [], alts := [], laidByText := true, laidKinds := [.data, .data], laidTests := true, laidLooks := .later }
def StandBeladyUptoCardSaid : Prop := Claim7.holds Tryd.pinned (.plain (OpenSpec.upto standBeladySpec)) standBeladyUptoCard

/-- THE SECOND FORM's CARD OF 'headwordlaw06.StandLast'. -/
def standLastUptoCard : Claim7 := { stood := { row := standLastUptoRow, standIns := [], harness := (true, "7fe546206ee7775e3887306d48d56ff64c0626f6146ed58b9d08b8a93a080da8"), looks := false }, kinds := [], alts := [], laidByText := true, laidKinds := [.data, .data], laidTests := true, laidLooks := .later }
def StandLastUptoCardSaid : Prop := Claim7.holds Tryd.pinned (.plain (OpenSpec.upto standLastSpec)) standLastUptoCard

/-- THE SECOND FORM's CARD OF 'headwordlaw06.StandBound'. -/
def standBoundUptoCard : Claim7 := { stood := { row := standBoundUptoRow, standIns := [], harness := (true, "7fe546206ee7775e3887306d48d56ff64c0626f6146ed58b9d08b8a93a080da8"), looks := false }, kinds := [], alts := [], laidByText := true, laidKinds := [.data, .data], laidTests := true, laidLooks := .later }
def StandBoundUptoCardSaid : Prop := Claim7.holds Tryd.pinned (.plain (OpenSpec.upto standBoundSpec)) standBoundUptoCard

/-- THE SECOND FORM's CARD OF 'headwordlaw06.StandRoom'. -/
def standRoomUptoCard : Claim7 := { stood := { row := standRoomUptoRow, standIns := [], harness := (true, "7fe546206ee7775e3887306d48d56ff64c0626f6146ed58b9d08b8a93a080da8"), looks := false }, kinds := [], alts := [], laidByText := true, laidKinds := [.data, .data], laidTests := true, laidLooks := .later }
def StandRoomUptoCardSaid : Prop := Claim7.holds Tryd.pinned (.plain (OpenSpec.upto standRoomSpec)) standRoomUptoCard

/-- THE SECOND FORM's CARD OF 'headwordlaw06.StandNamed'. -/
def standNamedUptoCard : Claim7 := { stood := { row := standNamedUptoRow, standIns := [], harness := (true, "7fe546206ee7775e3887306d48d56ff64c0626f6146ed58b9d08b8a93a080da8"), looks := false }, kinds := [], alts := [], laidByText := true, laidKinds := [.data, .data], laidTests := true, laidLooks := .later }
def StandNamedUptoCardSaid : Prop := Claim7.holds Tryd.pinned (.plain (OpenSpec.upto standNamedSpec)) standNamedUptoCard

/-- THE SECOND FORM's CARD OF 'headwordlaw06.StandKnown'. -/
def standKnownUptoCard : Claim7 := { stood := { row := standKnownUptoRow, standIns := [], harness := (true, "7fe546206ee7775e3887306d48d56ff64c0626f6146ed58b9d08b8a93a080da8"), looks := false }, kinds := [], alts := [], laidByText := true, laidKinds := [.data, .data], laidTests := true, laidLooks := .later }
def StandKnownUptoCardSaid : Prop := Claim7.holds Tryd.pinned (.plain (OpenSpec.upto standKnownSpec)) standKnownUptoCard

/-- THE SECOND FORM's CARD OF 'headwordlaw06.StandMore'. -/
def standMoreUptoCard : Claim7 := { stood := { row := standMoreUptoRow, standIns := [], harness := (true, "7fe546206ee7775e3887306d48d56ff64c0626f6146ed58b9d08b8a93a080da8"), looks := false }, kinds := [], alts := [], laidByText := true, laidKinds := [.data, .data], laidTests := true, laidLooks := .later }
def StandMoreUptoCardSaid : Prop := Claim7.holds Tryd.pinned (.plain (OpenSpec.upto standMoreSpec)) standMoreUptoCard

/-- THE SECOND FORM's CARD OF 'headwordlaw06.StandPlayed'. -/
def standPlayedUptoCard : Claim7 := { stood := { row := standPlayedUptoRow, standIns := [], harness := (true, "7fe546206ee7775e3887306d48d56ff64c0626f6146ed58b9d08b8a93a080da8"), looks := false }, kinds := [], alts := [], laidByText := true, laidKinds := [.data, .data], laidTests := true, laidLooks := .later }
def StandPlayedUptoCardSaid : Prop := Claim7.holds Tryd.pinned (.plain (OpenSpec.upto standPlayedSpec)) standPlayedUptoCard

/-- THE SECOND FORM's CARD OF 'headwordlaw06.StandTurned'. -/
def standTurnedUptoCard : Claim7 := { stood := { row := standTurnedUptoRow, standIns := [], harness := (true, "7fe546206ee7775e3887306d48d56ff64c0626f6146ed58b9d08b8a93a080da8"), looks := false }, kinds := [], alts := [], laidByText := true, laidKinds := [.data, .data], laidTests := true, laidLooks := .later }
def StandTurnedUptoCardSaid : Prop := Claim7.holds Tryd.pinned (.plain (OpenSpec.upto standTurnedSpec)) standTurnedUptoCard

/-- THE SECOND FORM's CARD OF 'headwordlaw06.StandTimes'. -/
def standTimesUptoCard : Claim7 := { stood := { row := standTimesUptoRow, standIns := [], harness := (true, "7fe546206ee7775e3887306d48d56ff64c0626f6146ed58b9d08b8a93a080da8"), looks := false }, kinds := [], alts := [], laidByText := true, laidKinds := [.data, .data], laidTests := true, laidLooks := .later }
def StandTimesUptoCardSaid : Prop := Claim7.holds Tryd.pinned (.plain (OpenSpec.upto standTimesSpec)) standTimesUptoCard
end Rows
end Go.Proofs.YtcdhajbhpnbdkaaDoor

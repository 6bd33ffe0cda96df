/-
  NARROWER THAN 'FOR EVERY INPUT', by the rows' own cells (each row's printed sentence says how): StandRuns: laid · StandRules: laid · StandPlans: laid · StandBounds: laid · StandBelady: laid · StandLast: laid · StandBound: laid · StandRoom: laid · StandNamed: laid · StandKnown: laid · StandMore: laid · StandPlayed: laid · StandTurned: laid · StandTimes: laid.
  DERIVED. THE GIVEN ROWS OF THIS SEAT. 14 by the template 'for every input the law returns true; each argument reads behind the call as it read before'; 0 by the template 'total and deterministic' (their statements: YtcdhajbhpnbdkaaDoorTotals.lean).
  GIVEN WITH THE SEED: the statements are not yours to turn. If you find one false, say at which input.
  Laid BY PROGRAM, IN A SANDBOX (cutbox-rows.mjs): the forced cells as the released guide's own fill.sh prints them over the translation 3cee3cc490acf22f… (all of the seat's roots in one cut). By AI agents, Wed Nov 11 2026. No macro, syntax, notation, axiom, sorry.
-/
import Derived.Test.YtcdhajbhpnbdkaaDoorChecked
import GoSem.Claim
import GoSem.ClaimJoined
import GoSem.ClaimMapViews
import Derived.JoinedTies
import Derived.KernelRfl
namespace Go.Proofs.YtcdhajbhpnbdkaaDoor
/- THE CELL 'sum', in the pinned program and in every row, IS THE sha256 OF THE DUMP (.gsa) THAT YtcdhajbhpnbdkaaDoorProg.lean LOADS. Nothing in Lean hashes anything: it is a label: what it is worth is what the hold of that sum in a sandbox is worth. -/
noncomputable def Tryd.pinned : Pinned := { name := "ytcdhajbhpnbdkaadoor", sum := "3cee3cc490acf22fb6af7a0ebc56bb0a29c11087419e8a3d3978aa01d5b98e05", checked := Tryd.checked }
namespace Rows
def none {H : Type} : Left H := { results := [], args := [] }

/- WHAT THE LISTED PACKAGE-LEVEL VARIABLES READ AS WHEN THE CALL BEGINS. Each datum BY PROGRAM (the guide's laid-datum.mjs) off the statement by which the dump's own 'gosem.cut.vars' lays the variable. In a bare row this is a premise. The card (YtcdhajbhpnbdkaaDoorCards.lean) ties it to the program's text. -/
def laid_math_bits_deBruijn32tab {H : Type} : DataW H := .agg [.lit (.int .u8 0), .lit (.int .u8 1), .lit (.int .u8 28), .lit (.int .u8 2), .lit (.int .u8 29), .lit (.int .u8 14), .lit (.int .u8 24), .lit (.int .u8 3), .lit (.int .u8 30), .lit (.int .u8 22), .lit (.int .u8 20), .lit (.int .u8 15), .lit (.int .u8 25), .lit (.int .u8 17), .lit (.int .u8 4), .lit (.int .u8 8), .lit (.int .u8 31), .lit (.int .u8 27), .lit (.int .u8 13), .lit (.int .u8 23), .lit (.int .u8 21), .lit (.int .u8 19), .lit (.int .u8 16), .lit (.int .u8 7), .lit (.int .u8 26), .lit (.int .u8 12), .lit (.int .u8 18), .lit (.int .u8 6), .lit (.int .u8 11), .lit (.int .u8 5), .lit (.int .u8 10), .lit (.int .u8 9)]
def laid_math_bits_deBruijn64tab {H : Type} : DataW H := .agg [.lit (.int .u8 0), .lit (.int .u8 1), .lit (.int .u8 56), .lit (.int .u8 2), .lit (.int .u8 57), .lit (.int .u8 49), .lit (.int .u8 28), .lit (.int .u8 3), .lit (.int .u8 61), .lit (.int .u8 58), .lit (.int .u8 42), .lit (.int .u8 50), .lit (.int .u8 38), .lit (.int .u8 29), .lit (.int .u8 17), .lit (.int .u8 4), .lit (.int .u8 62), .lit (.int .u8 47), .lit (.int .u8 59), .lit (.int .u8 36), .lit (.int .u8 45), .lit (.int .u8 43), .lit (.int .u8 51), .lit (.int .u8 22), .lit (.int .u8 53), .lit (.int .u8 39), .lit (.int .u8 33), .lit (.int .u8 30), .lit (.int .u8 24), .lit (.int .u8 18), .lit (.int .u8 12), .lit (.int .u8 5), .lit (.int .u8 63), .lit (.int .u8 55), .lit (.int .u8 48), .lit (.int .u8 27), .lit (.int .u8 60), .lit (.int .u8 41), .lit (.int .u8 37), .lit (.int .u8 16), .lit (.int .u8 46), .lit (.int .u8 35), .lit (.int .u8 44), .lit (.int .u8 21), .lit (.int .u8 52), .lit (.int .u8 32), .lit (.int .u8 23), .lit (.int .u8 11), .lit (.int .u8 54), .lit (.int .u8 26), .lit (.int .u8 40), .lit (.int .u8 15), .lit (.int .u8 34), .lit (.int .u8 20), .lit (.int .u8 31), .lit (.int .u8 10), .lit (.int .u8 25), .lit (.int .u8 14), .lit (.int .u8 19), .lit (.int .u8 9), .lit (.int .u8 13), .lit (.int .u8 8), .lit (.int .u8 7), .lit (.int .u8 6)]

/-- 'headwordlaw06.StandRuns': WHATEVER THE INPUT: true; the input reads as it did. -/
def standRunsSpec : ChangeSpec := { name := "standRuns", fn := fun _ => fun
  | [d1, d2] => { results := [.lit (.bool true)], args := [d1, d2] }
  | _ => none }
def standRunsRow : OpenClaim := { program := "ytcdhajbhpnbdkaadoor", sum := "3cee3cc490acf22fb6af7a0ebc56bb0a29c11087419e8a3d3978aa01d5b98e05", func := "headword/headwordlaw06.StandRuns", spec := "standRuns", unfollowed := true, recurses := true, named := ["math/bits.deBruijn32tab", "math/bits.deBruijn64tab"], apart := false, laid := [("math/bits.deBruijn32tab", laid_math_bits_deBruijn32tab), ("math/bits.deBruijn64tab", laid_math_bits_deBruijn64tab)] }
def StandRunsSaid : Prop := standRunsRow.holds Tryd.pinned (OpenSpec.ofChange standRunsSpec)

/-- ITS FALSE NEIGHBOUR: 'it returns false'. Refute it at one input. -/
def standRunsWrong : ChangeSpec := { name := "standRuns", fn := fun _ => fun
  | [d1, d2] => { results := [.lit (.bool false)], args := [d1, d2] }
  | _ => none }
def StandRunsWrongFalsely : Prop := standRunsRow.holds Tryd.pinned (OpenSpec.ofChange standRunsWrong)

/-- 'headwordlaw06.StandRules': WHATEVER THE INPUT: true; the input reads as it did. -/
def standRulesSpec : ChangeSpec := { name := "standRules", fn := fun _ => fun
  | [d] => { results := [.lit (.bool true)], args := [d] }
  | _ => none }
def standRulesRow : OpenClaim := { program := "ytcdhajbhpnbdkaadoor", sum := "3cee3cc490acf22fb6af7a0ebc56bb0a29c11087419e8a3d3978aa01d5b98e05", func := "headword/headwordlaw06.StandRules", spec := "standRules", unfollowed := true, recurses := true, named := ["math/bits.deBruijn32tab", "math/bits.deBruijn64tab"], apart := false, laid := [("math/bits.deBruijn32tab", laid_math_bits_deBruijn32tab), ("math/bits.deBruijn64tab", laid_math_bits_deBruijn64tab)] }
def StandRulesSaid : Prop := standRulesRow.holds Tryd.pinned (OpenSpec.ofChange standRulesSpec)

/-- ITS FALSE NEIGHBOUR: 'it returns false'. Refute it at one input. -/
def standRulesWrong : ChangeSpec := { name := "standRules", fn := fun _ => fun
  | [d] => { results := [.lit (.bool false)], args := [d] }
  | _ => none }
def StandRulesWrongFalsely : Prop := standRulesRow.holds Tryd.pinned (OpenSpec.ofChange standRulesWrong)

/-- 'headwordlaw06.StandPlans': WHATEVER THE INPUT: true; the input reads as it did. -/
def standPlansSpec : ChangeSpec := { name := "standPlans", fn := fun _ => fun
  | [d] => { results := [.lit (.bool true)], args := [d] }
  | _ => none }
def standPlansRow : OpenClaim := { program := "ytcdhajbhpnbdkaadoor", sum := "3cee3cc490acf22fb6af7a0ebc56bb0a29c11087419e8a3d3978aa01d5b98e05", func := "headword/headwordlaw06.StandPlans", spec := "standPlans", unfollowed := true, recurses := true, named := ["math/bits.deBruijn32tab", "math/bits.deBruijn64tab"], apart := false, laid := [("math/bits.deBruijn32tab", laid_math_bits_deBruijn32tab), ("math/bits.deBruijn64tab", laid_math_bits_deBruijn64tab)] }
def StandPlansSaid : Prop := standPlansRow.holds Tryd.pinned (OpenSpec.ofChange standPlansSpec)

/-- ITS FALSE NEIGHBOUR: 'it returns false'. Refute it at one input. -/
def standPlansWrong : ChangeSpec := { name := "standPlans", fn := fun _ => fun
  | [d] => { results := [.lit (.bool false)], args := [d] }
  | _ => none }
def StandPlansWrongFalsely : Prop := standPlansRow.holds Tryd.pinned (OpenSpec.ofChange standPlansWrong)

/-- 'headwordlaw06.StandBounds': WHATEVER THE INPUT: true; the input reads as it did. -/
def standBoundsSpec : ChangeSpec := { name := "standBounds", fn := fun _ => fun
  | [d1, d2, d3] => { results := [.lit (.bool true)], args := [d1, d2, d3] }
  | _ => none }
def standBoundsRow : OpenClaim := { program := "ytcdhajbhpnbdkaadoor", sum := "3cee3cc490acf22fb6af7a0ebc56bb0a29c11087419e8a3d3978aa01d5b98e05", func := "headword/headwordlaw06.StandBounds", spec := "standBounds", unfollowed := true, recurses := true, named := ["math/bits.deBruijn32tab", "math/bits.deBruijn64tab"], apart := false, laid := [("math/bits.deBruijn32tab", laid_math_bits_deBruijn32tab), ("math/bits.deBruijn64tab", laid_math_bits_deBruijn64tab)] }
def StandBoundsSaid : Prop := standBoundsRow.holds Tryd.pinned (OpenSpec.ofChange standBoundsSpec)

/-- ITS FALSE NEIGHBOUR: 'it returns false'. Refute it at one input. -/
def standBoundsWrong : ChangeSpec := { name := "standBounds", fn := fun _ => fun
  | [d1, d2, d3] => { results := [.lit (.bool false)], args := [d1, d2, d3] }
  | _ => none }
def StandBoundsWrongFalsely : Prop := standBoundsRow.holds Tryd.pinned (OpenSpec.ofChange standBoundsWrong)

/-- 'headwordlaw06.StandBelady': WHATEVER THE INPUT: true; the input reads as it did. -/
def standBeladySpec : ChangeSpec := { name := "standBelady", fn := fun _ => fun
  | [d] => { results := [.lit (.bool true)], args := [d] }
  | _ => none }
def standBeladyRow : OpenClaim := { program := "ytcdhajbhpnbdkaadoor", sum := "3cee3cc490acf22fb6af7a0ebc56bb0a29c11087419e8a3d3978aa01d5b98e05", func := "headword/headwordlaw06.StandBelady", spec := "standBelady", unfollowed := true, recurses := true, named := ["math/bits.deBruijn32tab", "math/bits.deBruijn64tab"], apart := false, laid := [("math/bits.deBruijn32tab", laid_math_bits_deBruijn32tab), ("math/bits.deBruijn64tab", laid_math_bits_deBruijn64tab)] }
def StandBeladySaid : Prop := standBeladyRow.holds Tryd.pinned (OpenSpec.ofChange standBeladySpec)

/-- ITS FALSE NEIGHBOUR: 'it returns false'. Refute it at one input. -/
def standBeladyWrong : ChangeSpec := { name := "standBelady", fn := fun _ => fun
  | [d] => { results := [.lit (.bool false)], args := [d] }
  | _ => none }
def StandBeladyWrongFalsely : Prop := standBeladyRow.holds Tryd.pinned (OpenSpec.ofChange standBeladyWrong)

/-- 'headwordlaw06.StandLast': WHATEVER THE INPUT: true; the input reads as it did. -/
def standLastSpec : ChangeSpec := { name := "standLast", fn := fun _ => fun
  | [d] => { results := [.lit (.bool true)], args := [d] }
  | _ => none }
def standLastRow : OpenClaim := { program := "ytcdhajbhpnbdkaadoor", sum := "3cee3cc490acf22fb6af7a0ebc56bb0a29c11087419e8a3d3978aa01d5b98e05", func := "headword/headwordlaw06.StandLast", spec := "standLast", unfollowed := true, recurses := true, named := ["math/bits.deBruijn32tab", "math/bits.deBruijn64tab"], apart := false, laid := [("math/bits.deBruijn32tab", laid_math_bits_deBruijn32tab), ("math/bits.deBruijn64tab", laid_math_bits_deBruijn64tab)] }
def StandLastSaid : Prop := standLastRow.holds Tryd.pinned (OpenSpec.ofChange standLastSpec)

/-- ITS FALSE NEIGHBOUR: 'it returns false'. Refute it at one input. -/
def standLastWrong : ChangeSpec := { name := "standLast", fn := fun _ => fun
  | [d] => { results := [.lit (.bool false)], args := [d] }
  | _ => none }
def StandLastWrongFalsely : Prop := standLastRow.holds Tryd.pinned (OpenSpec.ofChange standLastWrong)

/-- 'headwordlaw06.StandBound': WHATEVER THE INPUT: true; the input reads as it did. -/
def standBoundSpec : ChangeSpec := { name := "standBound", fn := fun _ => fun
  | [d] => { results := [.lit (.bool true)], args := [d] }
  | _ => none }
def standBoundRow : OpenClaim := { program := "ytcdhajbhpnbdkaadoor", sum := "3cee3cc490acf22fb6af7a0ebc56bb0a29c11087419e8a3d3978aa01d5b98e05", func := "headword/headwordlaw06.StandBound", spec := "standBound", unfollowed := true, recurses := true, named := ["math/bits.deBruijn32tab", "math/bits.deBruijn64tab"], apart := false, laid := [("math/bits.deBruijn32tab", laid_math_bits_deBruijn32tab), ("math/bits.deBruijn64tab", laid_math_bits_deBruijn64tab)] }
def StandBoundSaid : Prop := standBoundRow.holds Tryd.pinned (OpenSpec.ofChange standBoundSpec)

/-- ITS FALSE NEIGHBOUR: 'it returns false'. Refute it at one input. -/
def standBoundWrong : ChangeSpec := { name := "standBound", fn := fun _ => fun
  | [d] => { results := [.lit (.bool false)], args := [d] }
  | _ => none }
def StandBoundWrongFalsely : Prop := standBoundRow.holds Tryd.pinned (OpenSpec.ofChange standBoundWrong)

/-- 'headwordlaw06.StandRoom': WHATEVER THE INPUT: true; the input reads as it did. -/
def standRoomSpec : ChangeSpec := { name := "standRoom", fn := fun _ => fun
  | [d] => { results := [.lit (.bool true)], args := [d] }
  | _ => none }
def standRoomRow : OpenClaim := { program := "ytcdhajbhpnbdkaadoor", sum := "3cee3cc490acf22fb6af7a0ebc56bb0a29c11087419e8a3d3978aa01d5b98e05", func := "headword/headwordlaw06.StandRoom", spec := "standRoom", unfollowed := true, recurses := true, named := ["math/bits.deBruijn32tab", "math/bits.deBruijn64tab"], apart := false, laid := [("math/bits.deBruijn32tab", laid_math_bits_deBruijn32tab), ("math/bits.deBruijn64tab", laid_math_bits_deBruijn64tab)] }
def StandRoomSaid : Prop := standRoomRow.holds Tryd.pinned (OpenSpec.ofChange standRoomSpec)

/-- ITS FALSE NEIGHBOUR: 'it returns false'. Refute it at one input. -/
def standRoomWrong : ChangeSpec := { name := "standRoom", fn := fun _ => fun
  | [d] => { results := [.lit (.bool false)], args := [d] }
  | _ => none }
def StandRoomWrongFalsely : Prop := standRoomRow.holds Tryd.pinned (OpenSpec.ofChange standRoomWrong)

/-- 'headwordlaw06.StandNamed': WHATEVER THE INPUT: true; the input reads as it did. -/
def standNamedSpec : ChangeSpec := { name := "standNamed", fn := fun _ => fun
  | [d1, d2] => { results := [.lit (.bool true)], args := [d1, d2] }
  | _ => none }
def standNamedRow : OpenClaim := { program := "ytcdhajbhpnbdkaadoor", sum := "3cee3cc490acf22fb6af7a0ebc56bb0a29c11087419e8a3d3978aa01d5b98e05", func := "headword/headwordlaw06.StandNamed", spec := "standNamed", unfollowed := true, recurses := true, named := ["math/bits.deBruijn32tab", "math/bits.deBruijn64tab"], apart := false, laid := [("math/bits.deBruijn32tab", laid_math_bits_deBruijn32tab), ("math/bits.deBruijn64tab", laid_math_bits_deBruijn64tab)] }
def StandNamedSaid : Prop := standNamedRow.holds Tryd.pinned (OpenSpec.ofChange standNamedSpec)

/-- ITS FALSE NEIGHBOUR: 'it returns false'. Refute it at one input. -/
def standNamedWrong : ChangeSpec := { name := "standNamed", fn := fun _ => fun
  | [d1, d2] => { results := [.lit (.bool false)], args := [d1, d2] }
  | _ => none }
def StandNamedWrongFalsely : Prop := standNamedRow.holds Tryd.pinned (OpenSpec.ofChange standNamedWrong)

/-- 'headwordlaw06.StandKnown': WHATEVER THE INPUT: true; the input reads as it did. -/
def standKnownSpec : ChangeSpec := { name := "standKnown", fn := fun _ => fun
  | [] => { results := [.lit (.bool true)], args := [] }
  | _ => none }
def standKnownRow : OpenClaim := { program := "ytcdhajbhpnbdkaadoor", sum := "3cee3cc490acf22fb6af7a0ebc56bb0a29c11087419e8a3d3978aa01d5b98e05", func := "headword/headwordlaw06.StandKnown", spec := "standKnown", unfollowed := true, recurses := true, named := ["math/bits.deBruijn32tab", "math/bits.deBruijn64tab"], apart := false, laid := [("math/bits.deBruijn32tab", laid_math_bits_deBruijn32tab), ("math/bits.deBruijn64tab", laid_math_bits_deBruijn64tab)] }
def StandKnownSaid : Prop := standKnownRow.holds Tryd.pinned (OpenSpec.ofChange standKnownSpec)

/-- ITS FALSE NEIGHBOUR: 'it returns false'. Refute it at one input. -/
def standKnownWrong : ChangeSpec := { name := "standKnown", fn := fun _ => fun
  | [] => { results := [.lit (.bool false)], args := [] }
  | _ => none }
def StandKnownWrongFalsely : Prop := standKnownRow.holds Tryd.pinned (OpenSpec.ofChange standKnownWrong)

/-- 'headwordlaw06.StandMore': WHATEVER THE INPUT: true; the input reads as it did. -/
def standMoreSpec : ChangeSpec := { name := "standMore", fn := fun _ => fun
  | [d1, d2] => { results := [.lit (.bool true)], args := [d1, d2] }
  | _ => none }
def standMoreRow : OpenClaim := { program := "ytcdhajbhpnbdkaadoor", sum := "3cee3cc490acf22fb6af7a0ebc56bb0a29c11087419e8a3d3978aa01d5b98e05", func := "headword/headwordlaw06.StandMore", spec := "standMore", unfollowed := true, recurses := true, named := ["math/bits.deBruijn32tab", "math/bits.deBruijn64tab"], apart := false, laid := [("math/bits.deBruijn32tab", laid_math_bits_deBruijn32tab), ("math/bits.deBruijn64tab", laid_math_bits_deBruijn64tab)] }
def StandMoreSaid : Prop := standMoreRow.holds Tryd.pinned (OpenSpec.ofChange standMoreSpec)

/-- ITS FALSE NEIGHBOUR: 'it returns false'. Refute it at one input. -/
def standMoreWrong : ChangeSpec := { name := "standMore", fn := fun _ => fun
  | [d1, d2] => { results := [.lit (.bool false)], args := [d1, d2] }
  | _ => none }
def StandMoreWrongFalsely : Prop := standMoreRow.holds Tryd.pinned (OpenSpec.ofChange standMoreWrong)

/-- 'headwordlaw06.StandPlayed': WHATEVER THE INPUT: true; the input reads as it did. -/
def standPlayedSpec : ChangeSpec := { name := "standPlayed", fn := fun _ => fun
  | [d1, d2] => { results := [.lit (.bool true)], args := [d1, d2] }
  | _ => none }
def standPlayedRow : OpenClaim := { program := "ytcdhajbhpnbdkaadoor", sum := "3cee3cc490acf22fb6af7a0ebc56bb0a29c11087419e8a3d3978aa01d5b98e05", func := "headword/headwordlaw06.StandPlayed", spec := "standPlayed", unfollowed := true, recurses := true, named := ["math/bits.deBruijn32tab", "math/bits.deBruijn64tab"], apart := false, laid := [("math/bits.deBruijn32tab", laid_math_bits_deBruijn32tab), ("math/bits.deBruijn64tab", laid_math_bits_deBruijn64tab)] }
def StandPlayedSaid : Prop := standPlayedRow.holds Tryd.pinned (OpenSpec.ofChange standPlayedSpec)

/-- ITS FALSE NEIGHBOUR: 'it returns false'. Refute it at one input. -/
def standPlayedWrong : ChangeSpec := { name := "standPlayed", fn := fun _ => fun
  | [d1, d2] => { results := [.lit (.bool false)], args := [d1, d2] }
  | _ => none }
def StandPlayedWrongFalsely : Prop := standPlayedRow.holds Tryd.pinned (OpenSpec.ofChange standPlayedWrong)

/-- 'headwordlaw06.StandTurned': WHATEVER THE INPUT: true; the input reads as it did. -/
def standTurnedSpec : ChangeSpec := { name := "standTurned", fn := fun _ => fun
  | [d1, d2] => { results := [.lit (.bool true)], args := [d1, d2] }
  | _ => none }
def standTurnedRow : OpenClaim := { program := "ytcdhajbhpnbdkaadoor", sum := "3cee3cc490acf22fb6af7a0ebc56bb0a29c11087419e8a3d3978aa01d5b98e05", func := "headword/headwordlaw06.StandTurned", spec := "standTurned", unfollowed := true, recurses := true, named := ["math/bits.deBruijn32tab", "math/bits.deBruijn64tab"], apart := false, laid := [("math/bits.deBruijn32tab", laid_math_bits_deBruijn32tab), ("math/bits.deBruijn64tab", laid_math_bits_deBruijn64tab)] }
def StandTurnedSaid : Prop := standTurnedRow.holds Tryd.pinned (OpenSpec.ofChange standTurnedSpec)

/-- ITS FALSE NEIGHBOUR: 'it returns false'. Refute it at one input. -/
def standTurnedWrong : ChangeSpec := { name := "standTurned", fn := fun _ => fun
  | [d1, d2] => { results := [.lit (.bool false)], args := [d1, d2] }
  | _ => none }
def StandTurnedWrongFalsely : Prop := standTurnedRow.holds Tryd.pinned (OpenSpec.ofChange standTurnedWrong)

/-- 'headwordlaw06.StandTimes': WHATEVER THE INPUT: true; the input reads as it did. -/
def standTimesSpec : ChangeSpec := { name := "standTimes", fn := fun _ => fun
  | [d] => { results := [.lit (.bool true)], args := [d] }
  | _ => none }
def standTimesRow : OpenClaim := { program := "ytcdhajbhpnbdkaadoor", sum := "3cee3cc490acf22fb6af7a0ebc56bb0a29c11087419e8a3d3978aa01d5b98e05", func := "headword/headwordlaw06.StandTimes", spec := "standTimes", unfollowed := true, recurses := true, named := ["math/bits.deBruijn32tab", "math/bits.deBruijn64tab"], apart := false, laid := [("math/bits.deBruijn32tab", laid_math_bits_deBruijn32tab), ("math/bits.deBruijn64tab", laid_math_bits_deBruijn64tab)] }
def StandTimesSaid : Prop := standTimesRow.holds Tryd.pinned (OpenSpec.ofChange standTimesSpec)

/-- ITS FALSE NEIGHBOUR: 'it returns false'. Refute it at one input. -/
def standTimesWrong : ChangeSpec := { name := "standTimes", fn := fun _ => fun
  | [d] => { results := [.lit (.bool false)], args := [d] }
  | _ => none }
def StandTimesWrongFalsely : Prop := standTimesRow.holds Tryd.pinned (OpenSpec.ofChange standTimesWrong)

/- THE SECOND FORM. 'bulk': how many values and letters a reading holds, each counted each time it is reached (what is shared counts as often as it is met; a slice's spare places count too). A statement '..UptoSaid' is the law's where the arguments, and the package variables that the reading takes, are together of bulk at most 1048576: NARROWER than '..Said'. Prove '..Said' where nothing that the law and all that it calls make is longer than what came in: it says more and counts as full. Else prove '..UptoSaid'. A law counts once. -/
mutual
def uptoBulk {H : Type} : DataW H → Nat
  | .lit (.string bytes) => bytes.length + 1
  | .lit _ => 1
  | .nil => 1
  | .ptr d => uptoBulk d + 1
  | .slice elems spare => uptoBulkAll elems + uptoBulkAll spare + 1
  | .agg parts => uptoBulkAll parts + 1
  | .iface _ d => uptoBulk d + 1
  | .map entries => uptoBulkEntries entries + 1
  | .held _ => 1
def uptoBulkAll {H : Type} : List (DataW H) → Nat
  | [] => 0
  | d :: r => uptoBulk d + uptoBulkAll r
def uptoBulkEntries {H : Type} : List (Lit × DataW H) → Nat
  | [] => 0
  | x :: r => uptoBulkEntry x + uptoBulkEntries r
def uptoBulkEntry {H : Type} : Lit × DataW H → Nat
  | (.string bytes, d) => bytes.length + uptoBulk d + 1
  | (_, d) => uptoBulk d + 1
 end
def uptoSmall : (H : Type) → List (DataW H) → Bool := fun _ ds => decide (uptoBulkAll ds ≤ 1048576)
def OpenSpec.upto (s : _root_.Go.ChangeSpec) : _root_.Go.OpenSpec := { _root_.Go.OpenSpec.ofChange s with cond := some uptoSmall }

/-- 'headwordlaw06.StandRuns', WHERE WHAT IT READS IS OF BULK AT MOST 1048576: true; the input reads as it did. -/
def standRunsUptoRow : OpenClaim := { program := "ytcdhajbhpnbdkaadoor", sum := "3cee3cc490acf22fb6af7a0ebc56bb0a29c11087419e8a3d3978aa01d5b98e05", func := "headword/headwordlaw06.StandRuns", spec := "standRuns", unfollowed := true, recurses := true, named := ["math/bits.deBruijn32tab", "math/bits.deBruijn64tab"], apart := false, laid := [("math/bits.deBruijn32tab", laid_math_bits_deBruijn32tab), ("math/bits.deBruijn64tab", laid_math_bits_deBruijn64tab)], narrowed := true }
def StandRunsUptoSaid : Prop := standRunsUptoRow.holds Tryd.pinned (OpenSpec.upto standRunsSpec)

/-- 'headwordlaw06.StandRules', WHERE WHAT IT READS IS OF BULK AT MOST 1048576: true; the input reads as it did. -/
def standRulesUptoRow : OpenClaim := { program := "ytcdhajbhpnbdkaadoor", sum := "3cee3cc490acf22fb6af7a0ebc56bb0a29c11087419e8a3d3978aa01d5b98e05", func := "headword/headwordlaw06.StandRules", spec := "standRules", unfollowed := true, recurses := true, named := ["math/bits.deBruijn32tab", "math/bits.deBruijn64tab"], apart := false, laid := [("math/bits.deBruijn32tab", laid_math_bits_deBruijn32tab), ("math/bits.deBruijn64tab", laid_math_bits_deBruijn64tab)], narrowed := true }
def StandRulesUptoSaid : Prop := standRulesUptoRow.holds Tryd.pinned (OpenSpec.upto standRulesSpec)

/-- 'headwordlaw06.StandPlans', WHERE WHAT IT READS IS OF BULK AT MOST 1048576: true; the input reads as it did. -/
def standPlansUptoRow : OpenClaim := { program := "ytcdhajbhpnbdkaadoor", sum := "3cee3cc490acf22fb6af7a0ebc56bb0a29c11087419e8a3d3978aa01d5b98e05", func := "headword/headwordlaw06.StandPlans", spec := "standPlans", unfollowed := true, recurses := true, named := ["math/bits.deBruijn32tab", "math/bits.deBruijn64tab"], apart := false, laid := [("math/bits.deBruijn32tab", laid_math_bits_deBruijn32tab), ("math/bits.deBruijn64tab", laid_math_bits_deBruijn64tab)], narrowed := true }
def StandPlansUptoSaid : Prop := standPlansUptoRow.holds Tryd.pinned (OpenSpec.upto standPlansSpec)

/-- 'headwordlaw06.StandBounds', WHERE WHAT IT READS IS OF BULK AT MOST 1048576: true; the input reads as it did. -/
def standBoundsUptoRow : OpenClaim := { program := "ytcdhajbhpnbdkaadoor", sum := "3cee3cc490acf22fb6af7a0ebc56bb0a29c11087419e8a3d3978aa01d5b98e05", func := "headword/headwordlaw06.StandBounds", spec := "standBounds", unfollowed := true, recurses := true, named := ["math/bits.deBruijn32tab", "math/bits.deBruijn64tab"], apart := false, laid := [("math/bits.deBruijn32tab", laid_math_bits_deBruijn32tab), ("math/bits.deBruijn64tab", laid_math_bits_deBruijn64tab)], narrowed := true }
def StandBoundsUptoSaid : Prop := standBoundsUptoRow.holds Tryd.pinned (OpenSpec.upto standBoundsSpec)

/-- 'headwordlaw06.StandBelady', WHERE WHAT IT READS IS OF BULK AT MOST 1048576: true; the input reads as it did. -/
def standBeladyUptoRow : OpenClaim := { program := "ytcdhajbhpnbdkaadoor", sum := "3cee3cc490acf22fb6af7a0ebc56bb0a29c11087419e8a3d3978aa01d5b98e05", func := "headword/headwordlaw06.StandBelady", spec := "standBelady", unfollowed := true, recurses := true, named := ["math/bits.deBruijn32tab", "math/bits.deBruijn64tab"], apart := false, laid := [("math/bits.deBruijn32tab", laid_math_bits_deBruijn32tab), ("math/bits.deBruijn64tab", laid_math_bits_deBruijn64tab)], narrowed := true }
def StandBeladyUptoSaid : Prop := standBeladyUptoRow.holds Tryd.pinned (OpenSpec.upto standBeladySpec)

/-- 'headwordlaw06.StandLast', WHERE WHAT IT READS IS OF BULK AT MOST 1048576: true; the input reads as it did. -/
def standLastUptoRow : OpenClaim := { program := "ytcdhajbhpnbdkaadoor", sum := "3cee3cc490acf22fb6af7a0ebc56bb0a29c11087419e8a3d3978aa01d5b98e05", func := "headword/headwordlaw06.StandLast", spec := "standLast", unfollowed := true, recurses := true, named := ["math/bits.deBruijn32tab", "math/bits.deBruijn64tab"], apart := false, laid := [("math/bits.deBruijn32tab", laid_math_bits_deBruijn32tab), ("math/bits.deBruijn64tab", laid_math_bits_deBruijn64tab)], narrowed := true }
def StandLastUptoSaid : Prop := standLastUptoRow.holds Tryd.pinned (OpenSpec.upto standLastSpec)

/-- 'headwordlaw06.StandBound', WHERE WHAT IT READS IS OF BULK AT MOST 1048576: true; the input reads as it did. -/
def standBoundUptoRow : OpenClaim := { program := "ytcdhajbhpnbdkaadoor", sum := "3cee3cc490acf22fb6af7a0ebc56bb0a29c11087419e8a3d3978aa01d5b98e05", func := "headword/headwordlaw06.StandBound", spec := "standBound", unfollowed := true, recurses := true, named := ["math/bits.deBruijn32tab", "math/bits.deBruijn64tab"], apart := false, laid := [("math/bits.deBruijn32tab", laid_math_bits_deBruijn32tab), ("math/bits.deBruijn64tab", laid_math_bits_deBruijn64tab)], narrowed := true }
def StandBoundUptoSaid : Prop := standBoundUptoRow.holds Tryd.pinned (OpenSpec.upto standBoundSpec)

/-- 'headwordlaw06.StandRoom', WHERE WHAT IT READS IS OF BULK AT MOST 1048576: true; the input reads as it did. -/
def standRoomUptoRow : OpenClaim := { program := "ytcdhajbhpnbdkaadoor", sum := "3cee3cc490acf22fb6af7a0ebc56bb0a29c11087419e8a3d3978aa01d5b98e05", func := "headword/headwordlaw06.StandRoom", spec := "standRoom", unfollowed := true, recurses := true, named := ["math/bits.deBruijn32tab", "math/bits.deBruijn64tab"], apart := false, laid := [("math/bits.deBruijn32tab", laid_math_bits_deBruijn32tab), ("math/bits.deBruijn64tab", laid_math_bits_deBruijn64tab)], narrowed := true }
def StandRoomUptoSaid : Prop := standRoomUptoRow.holds Tryd.pinned (OpenSpec.upto standRoomSpec)

/-- 'headwordlaw06.StandNamed', WHERE WHAT IT READS IS OF BULK AT MOST 1048576: true; the input reads as it did. -/
def standNamedUptoRow : OpenClaim := { program := "ytcdhajbhpnbdkaadoor", sum := "3cee3cc490acf22fb6af7a0ebc56bb0a29c11087419e8a3d3978aa01d5b98e05", func := "headword/headwordlaw06.StandNamed", spec := "standNamed", unfollowed := true, recurses := true, named := ["math/bits.deBruijn32tab", "math/bits.deBruijn64tab"], apart := false, laid := [("math/bits.deBruijn32tab", laid_math_bits_deBruijn32tab), ("math/bits.deBruijn64tab", laid_math_bits_deBruijn64tab)], narrowed := true }
def StandNamedUptoSaid : Prop := standNamedUptoRow.holds Tryd.pinned (OpenSpec.upto standNamedSpec)

/-- 'headwordlaw06.StandKnown', WHERE WHAT IT READS IS OF BULK AT MOST 1048576: true; the input reads as it did. -/
def standKnownUptoRow : OpenClaim := { program := "ytcdhajbhpnbdkaadoor", sum := "3cee3cc490acf22fb6af7a0ebc56bb0a29c11087419e8a3d3978aa01d5b98e05", func := "headword/headwordlaw06.StandKnown", spec := "standKnown", unfollowed := true, recurses := true, named := ["math/bits.deBruijn32tab", "math/bits.deBruijn64tab"], apart := false, laid := [("math/bits.deBruijn32tab", laid_math_bits_deBruijn32tab), ("math/bits.deBruijn64tab", laid_math_bits_deBruijn64tab)], narrowed := true }
def StandKnownUptoSaid : Prop := standKnownUptoRow.holds Tryd.pinned (OpenSpec.upto standKnownSpec)

/-- 'headwordlaw06.StandMore', WHERE WHAT IT READS IS OF BULK AT MOST 1048576: true; the input reads as it did. -/
def standMoreUptoRow : OpenClaim := { program := "ytcdhajbhpnbdkaadoor", sum := "3cee3cc490acf22fb6af7a0ebc56bb0a29c11087419e8a3d3978aa01d5b98e05", func := "headword/headwordlaw06.StandMore", spec := "standMore", unfollowed := true, recurses := true, named := ["math/bits.deBruijn32tab", "math/bits.deBruijn64tab"], apart := false, laid := [("math/bits.deBruijn32tab", laid_math_bits_deBruijn32tab), ("math/bits.deBruijn64tab", laid_math_bits_deBruijn64tab)], narrowed := true }
def StandMoreUptoSaid : Prop := standMoreUptoRow.holds Tryd.pinned (OpenSpec.upto standMoreSpec)

/-- 'headwordlaw06.StandPlayed', WHERE WHAT IT READS IS OF BULK AT MOST 1048576: true; the input reads as it did. -/
def standPlayedUptoRow : OpenClaim := { program := "ytcdhajbhpnbdkaadoor", sum := "3cee3cc490acf22fb6af7a0ebc56bb0a29c11087419e8a3d3978aa01d5b98e05", func := "headword/headwordlaw06.StandPlayed", spec := "standPlayed", unfollowed := true, recurses := true, named := ["math/bits.deBruijn32tab", "math/bits.deBruijn64tab"], apart := false, laid := [("math/bits.deBruijn32tab", laid_math_bits_deBruijn32tab), ("math/bits.deBruijn64tab", laid_math_bits_deBruijn64tab)], narrowed := true }
def StandPlayedUptoSaid : Prop := standPlayedUptoRow.holds Tryd.pinned (OpenSpec.upto standPlayedSpec)

/-- 'headwordlaw06.StandTurned', WHERE WHAT IT READS IS OF BULK AT MOST 1048576: true; the input reads as it did. -/
def standTurnedUptoRow : OpenClaim := { program := "ytcdhajbhpnbdkaadoor", sum := "3cee3cc490acf22fb6af7a0ebc56bb0a29c11087419e8a3d3978aa01d5b98e05", func := "headword/headwordlaw06.StandTurned", spec := "standTurned", unfollowed := true, recurses := true, named := ["math/bits.deBruijn32tab", "math/bits.deBruijn64tab"], apart := false, laid := [("math/bits.deBruijn32tab", laid_math_bits_deBruijn32tab), ("math/bits.deBruijn64tab", laid_math_bits_deBruijn64tab)], narrowed := true }
def StandTurnedUptoSaid : Prop := standTurnedUptoRow.holds Tryd.pinned (OpenSpec.upto standTurnedSpec)

/-- 'headwordlaw06.StandTimes', WHERE WHAT IT READS IS OF BULK AT MOST 1048576: true; the input reads as it did. -/
def standTimesUptoRow : OpenClaim := { program := "ytcdhajbhpnbdkaadoor", sum := "3cee3cc490acf22fb6af7a0ebc56bb0a29c11087419e8a3d3978aa01d5b98e05", func := "headword/headwordlaw06.StandTimes", spec := "standTimes", unfollowed := true, recurses := true, named := ["math/bits.deBruijn32tab", "math/bits.deBruijn64tab"], apart := false, laid := [("math/bits.deBruijn32tab", laid_math_bits_deBruijn32tab), ("math/bits.deBruijn64tab", laid_math_bits_deBruijn64tab)], narrowed := true }
def StandTimesUptoSaid : Prop := standTimesUptoRow.holds Tryd.pinned (OpenSpec.upto standTimesSpec)

end Rows
end Go.Proofs.YtcdhajbhpnbdkaaDoor

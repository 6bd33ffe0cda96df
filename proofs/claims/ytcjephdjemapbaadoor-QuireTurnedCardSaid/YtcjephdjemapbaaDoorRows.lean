/-
  NARROWER THAN 'FOR EVERY INPUT', by the rows' own cells (each row's printed sentence says how): QuireFolds: laid · QuireCreases: laid · QuireWalks: laid · QuirePiles: laid · QuireDragon: laid · QuireLanes: laid · QuireTried: laid · QuireMirror: laid · QuirePairs: laid · QuireKnown: laid · QuireShaped: laid · QuireUnfolded: laid · QuireClash: laid · QuireTurned: laid.
  DERIVED. THE GIVEN ROWS OF THIS SEAT. 14 by the template 'for every input the law returns true; each argument reads behind the call as it read before'; 0 by the template 'total and deterministic' (their statements: YtcjephdjemapbaaDoorTotals.lean).
  GIVEN WITH THE SEED: the statements are not yours to turn. If you find one false, say at which input.
  Laid BY PROGRAM, IN A SANDBOX (cutbox-rows.mjs): the forced cells as the released guide's own fill.sh prints them over the translation 3025ce230ae9597e… (all of the seat's roots in one cut). By AI agents, Wed Nov 11 2026. No macro, syntax, notation, axiom, sorry.
-/
import Derived.Test.YtcjephdjemapbaaDoorChecked
import GoSem.PinnedTables
import GoSem.Claim
import GoSem.ClaimJoined
import GoSem.ClaimMapViews
import Derived.JoinedTies
import Derived.KernelRfl
namespace Go.Proofs.YtcjephdjemapbaaDoor
/- THE CELL 'sum', in the pinned program and in every row, IS THE sha256 OF THE DUMP (.gsa) THAT YtcjephdjemapbaaDoorProg.lean LOADS. Nothing in Lean hashes anything: it is a label: what it is worth is what the hold of that sum in a sandbox is worth. -/
noncomputable def Tryd.pinned : Pinned := { name := "ytcjephdjemapbaadoor", sum := "3025ce230ae9597e8b65ac69dd9652858bbfa75d6521d52d902b853f60def4fa", checked := Tryd.checked }
namespace Rows
def none {H : Type} : Left H := { results := [], args := [] }

/- WHAT THE LISTED PACKAGE-LEVEL VARIABLES READ AS WHEN THE CALL BEGINS. Each datum BY PROGRAM (the guide's laid-datum.mjs) off the statement by which the dump's own 'gosem.cut.vars' lays the variable. In a bare row this is a premise. The card (YtcjephdjemapbaaDoorCards.lean) ties it to the program's text. -/
def laid_math_bits_deBruijn32tab {H : Type} : DataW H := .agg [.lit (.int .u8 0), .lit (.int .u8 1), .lit (.int .u8 28), .lit (.int .u8 2), .lit (.int .u8 29), .lit (.int .u8 14), .lit (.int .u8 24), .lit (.int .u8 3), .lit (.int .u8 30), .lit (.int .u8 22), .lit (.int .u8 20), .lit (.int .u8 15), .lit (.int .u8 25), .lit (.int .u8 17), .lit (.int .u8 4), .lit (.int .u8 8), .lit (.int .u8 31), .lit (.int .u8 27), .lit (.int .u8 13), .lit (.int .u8 23), .lit (.int .u8 21), .lit (.int .u8 19), .lit (.int .u8 16), .lit (.int .u8 7), .lit (.int .u8 26), .lit (.int .u8 12), .lit (.int .u8 18), .lit (.int .u8 6), .lit (.int .u8 11), .lit (.int .u8 5), .lit (.int .u8 10), .lit (.int .u8 9)]
def laid_math_bits_deBruijn64tab {H : Type} : DataW H := .agg [.lit (.int .u8 0), .lit (.int .u8 1), .lit (.int .u8 56), .lit (.int .u8 2), .lit (.int .u8 57), .lit (.int .u8 49), .lit (.int .u8 28), .lit (.int .u8 3), .lit (.int .u8 61), .lit (.int .u8 58), .lit (.int .u8 42), .lit (.int .u8 50), .lit (.int .u8 38), .lit (.int .u8 29), .lit (.int .u8 17), .lit (.int .u8 4), .lit (.int .u8 62), .lit (.int .u8 47), .lit (.int .u8 59), .lit (.int .u8 36), .lit (.int .u8 45), .lit (.int .u8 43), .lit (.int .u8 51), .lit (.int .u8 22), .lit (.int .u8 53), .lit (.int .u8 39), .lit (.int .u8 33), .lit (.int .u8 30), .lit (.int .u8 24), .lit (.int .u8 18), .lit (.int .u8 12), .lit (.int .u8 5), .lit (.int .u8 63), .lit (.int .u8 55), .lit (.int .u8 48), .lit (.int .u8 27), .lit (.int .u8 60), .lit (.int .u8 41), .lit (.int .u8 37), .lit (.int .u8 16), .lit (.int .u8 46), .lit (.int .u8 35), .lit (.int .u8 44), .lit (.int .u8 21), .lit (.int .u8 52), .lit (.int .u8 32), .lit (.int .u8 23), .lit (.int .u8 11), .lit (.int .u8 54), .lit (.int .u8 26), .lit (.int .u8 40), .lit (.int .u8 15), .lit (.int .u8 34), .lit (.int .u8 20), .lit (.int .u8 31), .lit (.int .u8 10), .lit (.int .u8 25), .lit (.int .u8 14), .lit (.int .u8 19), .lit (.int .u8 9), .lit (.int .u8 13), .lit (.int .u8 8), .lit (.int .u8 7), .lit (.int .u8 6)]
def laid_unicode_utf8_acceptRanges {H : Type} : DataW H := .agg [.agg [.lit (.int .u8 128), .lit (.int .u8 191)], .agg [.lit (.int .u8 160), .lit (.int .u8 191)], .agg [.lit (.int .u8 128), .lit (.int .u8 159)], .agg [.lit (.int .u8 144), .lit (.int .u8 191)], .agg [.lit (.int .u8 128), .lit (.int .u8 143)], .agg [.lit (.int .u8 0), .lit (.int .u8 0)], .agg [.lit (.int .u8 0), .lit (.int .u8 0)], .agg [.lit (.int .u8 0), .lit (.int .u8 0)], .agg [.lit (.int .u8 0), .lit (.int .u8 0)], .agg [.lit (.int .u8 0), .lit (.int .u8 0)], .agg [.lit (.int .u8 0), .lit (.int .u8 0)], .agg [.lit (.int .u8 0), .lit (.int .u8 0)], .agg [.lit (.int .u8 0), .lit (.int .u8 0)], .agg [.lit (.int .u8 0), .lit (.int .u8 0)], .agg [.lit (.int .u8 0), .lit (.int .u8 0)], .agg [.lit (.int .u8 0), .lit (.int .u8 0)]]
/-- One of Go's own tables, pinned by name: the form's constant. -/
def laid_unicode_utf8_first : DataW Unit := Go.Pinned.utf8First

/-- 'headwordlaw03.QuireFolds': WHATEVER THE INPUT: true; the input reads as it did. -/
def quireFoldsSpec : ChangeSpec := { name := "quireFolds", fn := fun _ => fun
  | [d] => { results := [.lit (.bool true)], args := [d] }
  | _ => none }
def quireFoldsRow : OpenClaim := { program := "ytcjephdjemapbaadoor", sum := "3025ce230ae9597e8b65ac69dd9652858bbfa75d6521d52d902b853f60def4fa", func := "headword/headwordlaw03.QuireFolds", spec := "quireFolds", inPlace := ["internal/bytealg.IndexByteString", "internal/bytealg.IndexString"], unfollowed := true, recurses := true, named := ["unicode/utf8.first", "unicode/utf8.acceptRanges", "math/bits.deBruijn32tab", "math/bits.deBruijn64tab", "internal/bytealg.MaxLen"], plainKeys := false, apart := false, laid := [("math/bits.deBruijn32tab", laid_math_bits_deBruijn32tab), ("math/bits.deBruijn64tab", laid_math_bits_deBruijn64tab), ("unicode/utf8.acceptRanges", laid_unicode_utf8_acceptRanges), ("unicode/utf8.first", laid_unicode_utf8_first)] }
def QuireFoldsSaid : Prop := quireFoldsRow.holds Tryd.pinned (OpenSpec.ofChange quireFoldsSpec)

/-- ITS FALSE NEIGHBOUR: 'it returns false'. Refute it at one input. -/
def quireFoldsWrong : ChangeSpec := { name := "quireFolds", fn := fun _ => fun
  | [d] => { results := [.lit (.bool false)], args := [d] }
  | _ => none }
def QuireFoldsWrongFalsely : Prop := quireFoldsRow.holds Tryd.pinned (OpenSpec.ofChange quireFoldsWrong)

/-- 'headwordlaw03.QuireCreases': WHATEVER THE INPUT: true; the input reads as it did. -/
def quireCreasesSpec : ChangeSpec := { name := "quireCreases", fn := fun _ => fun
  | [d1, d2, d3] => { results := [.lit (.bool true)], args := [d1, d2, d3] }
  | _ => none }
def quireCreasesRow : OpenClaim := { program := "ytcjephdjemapbaadoor", sum := "3025ce230ae9597e8b65ac69dd9652858bbfa75d6521d52d902b853f60def4fa", func := "headword/headwordlaw03.QuireCreases", spec := "quireCreases", inPlace := ["internal/bytealg.IndexByteString", "internal/bytealg.IndexString"], unfollowed := true, recurses := true, named := ["unicode/utf8.first", "unicode/utf8.acceptRanges", "math/bits.deBruijn32tab", "math/bits.deBruijn64tab", "internal/bytealg.MaxLen"], plainKeys := false, apart := false, laid := [("math/bits.deBruijn32tab", laid_math_bits_deBruijn32tab), ("math/bits.deBruijn64tab", laid_math_bits_deBruijn64tab), ("unicode/utf8.acceptRanges", laid_unicode_utf8_acceptRanges), ("unicode/utf8.first", laid_unicode_utf8_first)] }
def QuireCreasesSaid : Prop := quireCreasesRow.holds Tryd.pinned (OpenSpec.ofChange quireCreasesSpec)

/-- ITS FALSE NEIGHBOUR: 'it returns false'. Refute it at one input. -/
def quireCreasesWrong : ChangeSpec := { name := "quireCreases", fn := fun _ => fun
  | [d1, d2, d3] => { results := [.lit (.bool false)], args := [d1, d2, d3] }
  | _ => none }
def QuireCreasesWrongFalsely : Prop := quireCreasesRow.holds Tryd.pinned (OpenSpec.ofChange quireCreasesWrong)

/-- 'headwordlaw03.QuireWalks': WHATEVER THE INPUT: true; the input reads as it did. -/
def quireWalksSpec : ChangeSpec := { name := "quireWalks", fn := fun _ => fun
  | [d] => { results := [.lit (.bool true)], args := [d] }
  | _ => none }
def quireWalksRow : OpenClaim := { program := "ytcjephdjemapbaadoor", sum := "3025ce230ae9597e8b65ac69dd9652858bbfa75d6521d52d902b853f60def4fa", func := "headword/headwordlaw03.QuireWalks", spec := "quireWalks", inPlace := ["internal/bytealg.IndexByteString", "internal/bytealg.IndexString"], unfollowed := true, recurses := true, named := ["unicode/utf8.first", "unicode/utf8.acceptRanges", "math/bits.deBruijn32tab", "math/bits.deBruijn64tab", "internal/bytealg.MaxLen"], plainKeys := false, apart := false, laid := [("math/bits.deBruijn32tab", laid_math_bits_deBruijn32tab), ("math/bits.deBruijn64tab", laid_math_bits_deBruijn64tab), ("unicode/utf8.acceptRanges", laid_unicode_utf8_acceptRanges), ("unicode/utf8.first", laid_unicode_utf8_first)] }
def QuireWalksSaid : Prop := quireWalksRow.holds Tryd.pinned (OpenSpec.ofChange quireWalksSpec)

/-- ITS FALSE NEIGHBOUR: 'it returns false'. Refute it at one input. -/
def quireWalksWrong : ChangeSpec := { name := "quireWalks", fn := fun _ => fun
  | [d] => { results := [.lit (.bool false)], args := [d] }
  | _ => none }
def QuireWalksWrongFalsely : Prop := quireWalksRow.holds Tryd.pinned (OpenSpec.ofChange quireWalksWrong)

/-- 'headwordlaw03.QuirePiles': WHATEVER THE INPUT: true; the input reads as it did. -/
def quirePilesSpec : ChangeSpec := { name := "quirePiles", fn := fun _ => fun
  | [d] => { results := [.lit (.bool true)], args := [d] }
  | _ => none }
def quirePilesRow : OpenClaim := { program := "ytcjephdjemapbaadoor", sum := "3025ce230ae9597e8b65ac69dd9652858bbfa75d6521d52d902b853f60def4fa", func := "headword/headwordlaw03.QuirePiles", spec := "quirePiles", inPlace := ["internal/bytealg.IndexByteString", "internal/bytealg.IndexString"], unfollowed := true, recurses := true, named := ["unicode/utf8.first", "unicode/utf8.acceptRanges", "math/bits.deBruijn32tab", "math/bits.deBruijn64tab", "internal/bytealg.MaxLen"], plainKeys := false, apart := false, laid := [("math/bits.deBruijn32tab", laid_math_bits_deBruijn32tab), ("math/bits.deBruijn64tab", laid_math_bits_deBruijn64tab), ("unicode/utf8.acceptRanges", laid_unicode_utf8_acceptRanges), ("unicode/utf8.first", laid_unicode_utf8_first)] }
def QuirePilesSaid : Prop := quirePilesRow.holds Tryd.pinned (OpenSpec.ofChange quirePilesSpec)

/-- ITS FALSE NEIGHBOUR: 'it returns false'. Refute it at one input. -/
def quirePilesWrong : ChangeSpec := { name := "quirePiles", fn := fun _ => fun
  | [d] => { results := [.lit (.bool false)], args := [d] }
  | _ => none }
def QuirePilesWrongFalsely : Prop := quirePilesRow.holds Tryd.pinned (OpenSpec.ofChange quirePilesWrong)

/-- 'headwordlaw03.QuireDragon': WHATEVER THE INPUT: true; the input reads as it did. -/
def quireDragonSpec : ChangeSpec := { name := "quireDragon", fn := fun _ => fun
  | [d1, d2] => { results := [.lit (.bool true)], args := [d1, d2] }
  | _ => none }
def quireDragonRow : OpenClaim := { program := "ytcjephdjemapbaadoor", sum := "3025ce230ae9597e8b65ac69dd9652858bbfa75d6521d52d902b853f60def4fa", func := "headword/headwordlaw03.QuireDragon", spec := "quireDragon", inPlace := ["internal/bytealg.IndexByteString", "internal/bytealg.IndexString"], unfollowed := true, recurses := true, named := ["unicode/utf8.first", "unicode/utf8.acceptRanges", "math/bits.deBruijn32tab", "math/bits.deBruijn64tab", "internal/bytealg.MaxLen"], plainKeys := false, apart := false, laid := [("math/bits.deBruijn32tab", laid_math_bits_deBruijn32tab), ("math/bits.deBruijn64tab", laid_math_bits_deBruijn64tab), ("unicode/utf8.acceptRanges", laid_unicode_utf8_acceptRanges), ("unicode/utf8.first", laid_unicode_utf8_first)] }
def QuireDragonSaid : Prop := quireDragonRow.holds Tryd.pinned (OpenSpec.ofChange quireDragonSpec)

/-- ITS FALSE NEIGHBOUR: 'it returns false'. Refute it at one input. -/
def quireDragonWrong : ChangeSpec := { name := "quireDragon", fn := fun _ => fun
  | [d1, d2] => { results := [.lit (.bool false)], args := [d1, d2] }
  | _ => none }
def QuireDragonWrongFalsely : Prop := quireDragonRow.holds Tryd.pinned (OpenSpec.ofChange quireDragonWrong)

/-- 'headwordlaw03.QuireLanes': WHATEVER THE INPUT: true; the input reads as it did. -/
def quireLanesSpec : ChangeSpec := { name := "quireLanes", fn := fun _ => fun
  | [d1, d2] => { results := [.lit (.bool true)], args := [d1, d2] }
  | _ => none }
def quireLanesRow : OpenClaim := { program := "ytcjephdjemapbaadoor", sum := "3025ce230ae9597e8b65ac69dd9652858bbfa75d6521d52d902b853f60def4fa", func := "headword/headwordlaw03.QuireLanes", spec := "quireLanes", inPlace := ["internal/bytealg.IndexByteString", "internal/bytealg.IndexString"], unfollowed := true, recurses := true, named := ["unicode/utf8.first", "unicode/utf8.acceptRanges", "math/bits.deBruijn32tab", "math/bits.deBruijn64tab", "internal/bytealg.MaxLen"], plainKeys := false, apart := false, laid := [("math/bits.deBruijn32tab", laid_math_bits_deBruijn32tab), ("math/bits.deBruijn64tab", laid_math_bits_deBruijn64tab), ("unicode/utf8.acceptRanges", laid_unicode_utf8_acceptRanges), ("unicode/utf8.first", laid_unicode_utf8_first)] }
def QuireLanesSaid : Prop := quireLanesRow.holds Tryd.pinned (OpenSpec.ofChange quireLanesSpec)

/-- ITS FALSE NEIGHBOUR: 'it returns false'. Refute it at one input. -/
def quireLanesWrong : ChangeSpec := { name := "quireLanes", fn := fun _ => fun
  | [d1, d2] => { results := [.lit (.bool false)], args := [d1, d2] }
  | _ => none }
def QuireLanesWrongFalsely : Prop := quireLanesRow.holds Tryd.pinned (OpenSpec.ofChange quireLanesWrong)

/-- 'headwordlaw03.QuireTried': WHATEVER THE INPUT: true; the input reads as it did. -/
def quireTriedSpec : ChangeSpec := { name := "quireTried", fn := fun _ => fun
  | [d1, d2] => { results := [.lit (.bool true)], args := [d1, d2] }
  | _ => none }
def quireTriedRow : OpenClaim := { program := "ytcjephdjemapbaadoor", sum := "3025ce230ae9597e8b65ac69dd9652858bbfa75d6521d52d902b853f60def4fa", func := "headword/headwordlaw03.QuireTried", spec := "quireTried", inPlace := ["internal/bytealg.IndexByteString", "internal/bytealg.IndexString"], unfollowed := true, recurses := true, named := ["unicode/utf8.first", "unicode/utf8.acceptRanges", "math/bits.deBruijn32tab", "math/bits.deBruijn64tab", "internal/bytealg.MaxLen"], plainKeys := false, apart := false, laid := [("math/bits.deBruijn32tab", laid_math_bits_deBruijn32tab), ("math/bits.deBruijn64tab", laid_math_bits_deBruijn64tab), ("unicode/utf8.acceptRanges", laid_unicode_utf8_acceptRanges), ("unicode/utf8.first", laid_unicode_utf8_first)] }
def QuireTriedSaid : Prop := quireTriedRow.holds Tryd.pinned (OpenSpec.ofChange quireTriedSpec)

/-- ITS FALSE NEIGHBOUR: 'it returns false'. Refute it at one input. -/
def quireTriedWrong : ChangeSpec := { name := "quireTried", fn := fun _ => fun
  | [d1, d2] => { results := [.lit (.bool false)], args := [d1, d2] }
  | _ => none }
def QuireTriedWrongFalsely : Prop := quireTriedRow.holds Tryd.pinned (OpenSpec.ofChange quireTriedWrong)

/-- 'headwordlaw03.QuireMirror': WHATEVER THE INPUT: true; the input reads as it did. -/
def quireMirrorSpec : ChangeSpec := { name := "quireMirror", fn := fun _ => fun
  | [d1, d2] => { results := [.lit (.bool true)], args := [d1, d2] }
  | _ => none }
def quireMirrorRow : OpenClaim := { program := "ytcjephdjemapbaadoor", sum := "3025ce230ae9597e8b65ac69dd9652858bbfa75d6521d52d902b853f60def4fa", func := "headword/headwordlaw03.QuireMirror", spec := "quireMirror", inPlace := ["internal/bytealg.IndexByteString", "internal/bytealg.IndexString"], unfollowed := true, recurses := true, named := ["unicode/utf8.first", "unicode/utf8.acceptRanges", "math/bits.deBruijn32tab", "math/bits.deBruijn64tab", "internal/bytealg.MaxLen"], plainKeys := false, apart := false, laid := [("math/bits.deBruijn32tab", laid_math_bits_deBruijn32tab), ("math/bits.deBruijn64tab", laid_math_bits_deBruijn64tab), ("unicode/utf8.acceptRanges", laid_unicode_utf8_acceptRanges), ("unicode/utf8.first", laid_unicode_utf8_first)] }
def QuireMirrorSaid : Prop := quireMirrorRow.holds Tryd.pinned (OpenSpec.ofChange quireMirrorSpec)

/-- ITS FALSE NEIGHBOUR: 'it returns false'. Refute it at one input. -/
def quireMirrorWrong : ChangeSpec := { name := "quireMirror", fn := fun _ => fun
  | [d1, d2] => { results := [.lit (.bool false)], args := [d1, d2] }
  | _ => none }
def QuireMirrorWrongFalsely : Prop := quireMirrorRow.holds Tryd.pinned (OpenSpec.ofChange quireMirrorWrong)

/-- 'headwordlaw03.QuirePairs': WHATEVER THE INPUT: true; the input reads as it did. -/
def quirePairsSpec : ChangeSpec := { name := "quirePairs", fn := fun _ => fun
  | [d1, d2] => { results := [.lit (.bool true)], args := [d1, d2] }
  | _ => none }
def quirePairsRow : OpenClaim := { program := "ytcjephdjemapbaadoor", sum := "3025ce230ae9597e8b65ac69dd9652858bbfa75d6521d52d902b853f60def4fa", func := "headword/headwordlaw03.QuirePairs", spec := "quirePairs", inPlace := ["internal/bytealg.IndexByteString", "internal/bytealg.IndexString"], unfollowed := true, recurses := true, named := ["unicode/utf8.first", "unicode/utf8.acceptRanges", "math/bits.deBruijn32tab", "math/bits.deBruijn64tab", "internal/bytealg.MaxLen"], plainKeys := false, apart := false, laid := [("math/bits.deBruijn32tab", laid_math_bits_deBruijn32tab), ("math/bits.deBruijn64tab", laid_math_bits_deBruijn64tab), ("unicode/utf8.acceptRanges", laid_unicode_utf8_acceptRanges), ("unicode/utf8.first", laid_unicode_utf8_first)] }
def QuirePairsSaid : Prop := quirePairsRow.holds Tryd.pinned (OpenSpec.ofChange quirePairsSpec)

/-- ITS FALSE NEIGHBOUR: 'it returns false'. Refute it at one input. -/
def quirePairsWrong : ChangeSpec := { name := "quirePairs", fn := fun _ => fun
  | [d1, d2] => { results := [.lit (.bool false)], args := [d1, d2] }
  | _ => none }
def QuirePairsWrongFalsely : Prop := quirePairsRow.holds Tryd.pinned (OpenSpec.ofChange quirePairsWrong)

/-- 'headwordlaw03.QuireKnown': WHATEVER THE INPUT: true; the input reads as it did. -/
def quireKnownSpec : ChangeSpec := { name := "quireKnown", fn := fun _ => fun
  | [] => { results := [.lit (.bool true)], args := [] }
  | _ => none }
def quireKnownRow : OpenClaim := { program := "ytcjephdjemapbaadoor", sum := "3025ce230ae9597e8b65ac69dd9652858bbfa75d6521d52d902b853f60def4fa", func := "headword/headwordlaw03.QuireKnown", spec := "quireKnown", inPlace := ["internal/bytealg.IndexByteString", "internal/bytealg.IndexString"], unfollowed := true, recurses := true, named := ["unicode/utf8.first", "unicode/utf8.acceptRanges", "math/bits.deBruijn32tab", "math/bits.deBruijn64tab", "internal/bytealg.MaxLen"], plainKeys := false, apart := false, laid := [("math/bits.deBruijn32tab", laid_math_bits_deBruijn32tab), ("math/bits.deBruijn64tab", laid_math_bits_deBruijn64tab), ("unicode/utf8.acceptRanges", laid_unicode_utf8_acceptRanges), ("unicode/utf8.first", laid_unicode_utf8_first)] }
def QuireKnownSaid : Prop := quireKnownRow.holds Tryd.pinned (OpenSpec.ofChange quireKnownSpec)

/-- ITS FALSE NEIGHBOUR: 'it returns false'. Refute it at one input. -/
def quireKnownWrong : ChangeSpec := { name := "quireKnown", fn := fun _ => fun
  | [] => { results := [.lit (.bool false)], args := [] }
  | _ => none }
def QuireKnownWrongFalsely : Prop := quireKnownRow.holds Tryd.pinned (OpenSpec.ofChange quireKnownWrong)

/-- 'headwordlaw03.QuireShaped': WHATEVER THE INPUT: true; the input reads as it did. -/
def quireShapedSpec : ChangeSpec := { name := "quireShaped", fn := fun _ => fun
  | [d1, d2, d3] => { results := [.lit (.bool true)], args := [d1, d2, d3] }
  | _ => none }
def quireShapedRow : OpenClaim := { program := "ytcjephdjemapbaadoor", sum := "3025ce230ae9597e8b65ac69dd9652858bbfa75d6521d52d902b853f60def4fa", func := "headword/headwordlaw03.QuireShaped", spec := "quireShaped", inPlace := ["internal/bytealg.IndexByteString", "internal/bytealg.IndexString"], unfollowed := true, recurses := true, named := ["unicode/utf8.first", "unicode/utf8.acceptRanges", "math/bits.deBruijn32tab", "math/bits.deBruijn64tab", "internal/bytealg.MaxLen"], plainKeys := false, apart := false, laid := [("math/bits.deBruijn32tab", laid_math_bits_deBruijn32tab), ("math/bits.deBruijn64tab", laid_math_bits_deBruijn64tab), ("unicode/utf8.acceptRanges", laid_unicode_utf8_acceptRanges), ("unicode/utf8.first", laid_unicode_utf8_first)] }
def QuireShapedSaid : Prop := quireShapedRow.holds Tryd.pinned (OpenSpec.ofChange quireShapedSpec)

/-- ITS FALSE NEIGHBOUR: 'it returns false'. Refute it at one input. -/
def quireShapedWrong : ChangeSpec := { name := "quireShaped", fn := fun _ => fun
  | [d1, d2, d3] => { results := [.lit (.bool false)], args := [d1, d2, d3] }
  | _ => none }
def QuireShapedWrongFalsely : Prop := quireShapedRow.holds Tryd.pinned (OpenSpec.ofChange quireShapedWrong)

/-- 'headwordlaw03.QuireUnfolded': WHATEVER THE INPUT: true; the input reads as it did. -/
def quireUnfoldedSpec : ChangeSpec := { name := "quireUnfolded", fn := fun _ => fun
  | [d1, d2] => { results := [.lit (.bool true)], args := [d1, d2] }
  | _ => none }
def quireUnfoldedRow : OpenClaim := { program := "ytcjephdjemapbaadoor", sum := "3025ce230ae9597e8b65ac69dd9652858bbfa75d6521d52d902b853f60def4fa", func := "headword/headwordlaw03.QuireUnfolded", spec := "quireUnfolded", inPlace := ["internal/bytealg.IndexByteString", "internal/bytealg.IndexString"], unfollowed := true, recurses := true, named := ["unicode/utf8.first", "unicode/utf8.acceptRanges", "math/bits.deBruijn32tab", "math/bits.deBruijn64tab", "internal/bytealg.MaxLen"], plainKeys := false, apart := false, laid := [("math/bits.deBruijn32tab", laid_math_bits_deBruijn32tab), ("math/bits.deBruijn64tab", laid_math_bits_deBruijn64tab), ("unicode/utf8.acceptRanges", laid_unicode_utf8_acceptRanges), ("unicode/utf8.first", laid_unicode_utf8_first)] }
def QuireUnfoldedSaid : Prop := quireUnfoldedRow.holds Tryd.pinned (OpenSpec.ofChange quireUnfoldedSpec)

/-- ITS FALSE NEIGHBOUR: 'it returns false'. Refute it at one input. -/
def quireUnfoldedWrong : ChangeSpec := { name := "quireUnfolded", fn := fun _ => fun
  | [d1, d2] => { results := [.lit (.bool false)], args := [d1, d2] }
  | _ => none }
def QuireUnfoldedWrongFalsely : Prop := quireUnfoldedRow.holds Tryd.pinned (OpenSpec.ofChange quireUnfoldedWrong)

/-- 'headwordlaw03.QuireClash': WHATEVER THE INPUT: true; the input reads as it did. -/
def quireClashSpec : ChangeSpec := { name := "quireClash", fn := fun _ => fun
  | [d1, d2, d3] => { results := [.lit (.bool true)], args := [d1, d2, d3] }
  | _ => none }
def quireClashRow : OpenClaim := { program := "ytcjephdjemapbaadoor", sum := "3025ce230ae9597e8b65ac69dd9652858bbfa75d6521d52d902b853f60def4fa", func := "headword/headwordlaw03.QuireClash", spec := "quireClash", inPlace := ["internal/bytealg.IndexByteString", "internal/bytealg.IndexString", "internal/abi.NoEscape", "internal/bytealg.MakeNoZero"], unfollowed := true, recurses := true, named := ["unicode/utf8.first", "unicode/utf8.acceptRanges", "math/bits.deBruijn32tab", "math/bits.deBruijn64tab", "internal/bytealg.MaxLen"], plainKeys := false, apart := false, laid := [("math/bits.deBruijn32tab", laid_math_bits_deBruijn32tab), ("math/bits.deBruijn64tab", laid_math_bits_deBruijn64tab), ("unicode/utf8.acceptRanges", laid_unicode_utf8_acceptRanges), ("unicode/utf8.first", laid_unicode_utf8_first)] }
def QuireClashSaid : Prop := quireClashRow.holds Tryd.pinned (OpenSpec.ofChange quireClashSpec)

/-- ITS FALSE NEIGHBOUR: 'it returns false'. Refute it at one input. -/
def quireClashWrong : ChangeSpec := { name := "quireClash", fn := fun _ => fun
  | [d1, d2, d3] => { results := [.lit (.bool false)], args := [d1, d2, d3] }
  | _ => none }
def QuireClashWrongFalsely : Prop := quireClashRow.holds Tryd.pinned (OpenSpec.ofChange quireClashWrong)

/-- 'headwordlaw03.QuireTurned': WHATEVER THE INPUT: true; the input reads as it did. -/
def quireTurnedSpec : ChangeSpec := { name := "quireTurned", fn := fun _ => fun
  | [d1, d2, d3, d4] => { results := [.lit (.bool true)], args := [d1, d2, d3, d4] }
  | _ => none }
def quireTurnedRow : OpenClaim := { program := "ytcjephdjemapbaadoor", sum := "3025ce230ae9597e8b65ac69dd9652858bbfa75d6521d52d902b853f60def4fa", func := "headword/headwordlaw03.QuireTurned", spec := "quireTurned", inPlace := ["internal/abi.NoEscape", "internal/bytealg.MakeNoZero", "internal/bytealg.IndexByteString", "internal/bytealg.IndexString"], unfollowed := true, recurses := true, named := ["unicode/utf8.first", "unicode/utf8.acceptRanges", "math/bits.deBruijn32tab", "math/bits.deBruijn64tab", "internal/bytealg.MaxLen"], plainKeys := false, apart := false, laid := [("math/bits.deBruijn32tab", laid_math_bits_deBruijn32tab), ("math/bits.deBruijn64tab", laid_math_bits_deBruijn64tab), ("unicode/utf8.acceptRanges", laid_unicode_utf8_acceptRanges), ("unicode/utf8.first", laid_unicode_utf8_first)] }
def QuireTurnedSaid : Prop := quireTurnedRow.holds Tryd.pinned (OpenSpec.ofChange quireTurnedSpec)

/-- ITS FALSE NEIGHBOUR: 'it returns false'. Refute it at one input. -/
def quireTurnedWrong : ChangeSpec := { name := "quireTurned", fn := fun _ => fun
  | [d1, d2, d3, d4] => { results := [.lit (.bool false)], args := [d1, d2, d3, d4] }
  | _ => none }
def QuireTurnedWrongFalsely : Prop := quireTurnedRow.holds Tryd.pinned (OpenSpec.ofChange quireTurnedWrong)

/- THE SECOND FORM. 'bulk': how many values and letters a reading holds, each counted each time it is reached (what is shared counts as often as it is met; a slice's spare places count too). A statement '..UptoSaid' is the law's where the arguments, and the package variables that the reading takes, are together of bulk at most 1048576: NARROWER than '..Said'. Prove '..Said' where nothing that the law and all that it calls make is longer than what came in: it says more and counts as full. Else prove '..UptoSaid'. A law counts once. -/
mutual
def uptoBulk {H : Type} : DataW H → Nat
  | .lit (.string bytes) => bytes.length + 1
  | .lit _ => 1
  | .nil => 1
  | .ptr d => uptoBulk d + 1
  | .slice elems spare => uptoBulkAll elems + uptoBulkAll spare + 1
  | .agg parts => uptoBulkAll parts + 1
  | .iface _ d => uptoBulk d + 1
  | .map entries => uptoBulkEntries entries + 1
  | .held _ => 1
def uptoBulkAll {H : Type} : List (DataW H) → Nat
  | [] => 0
  | d :: r => uptoBulk d + uptoBulkAll r
def uptoBulkEntries {H : Type} : List (Lit × DataW H) → Nat
  | [] => 0
  | x :: r => uptoBulkEntry x + uptoBulkEntries r
def uptoBulkEntry {H : Type} : Lit × DataW H → Nat
  | (.string bytes, d) => bytes.length + uptoBulk d + 1
  | (_, d) => uptoBulk d + 1
 end
def uptoSmall : (H : Type) → List (DataW H) → Bool := fun _ ds => decide (uptoBulkAll ds ≤ 1048576)
def OpenSpec.upto (s : _root_.Go.ChangeSpec) : _root_.Go.OpenSpec := { _root_.Go.OpenSpec.ofChange s with cond := some uptoSmall }

/-- 'headwordlaw03.QuireFolds', WHERE WHAT IT READS IS OF BULK AT MOST 1048576: true; the input reads as it did. -/
def quireFoldsUptoRow : OpenClaim := { program := "ytcjephdjemapbaadoor", sum := "3025ce230ae9597e8b65ac69dd9652858bbfa75d6521d52d902b853f60def4fa", func := "headword/headwordlaw03.QuireFolds", spec := "quireFolds", inPlace := ["internal/bytealg.IndexByteString", "internal/bytealg.IndexString"], unfollowed := true, recurses := true, named := ["unicode/utf8.first", "unicode/utf8.acceptRanges", "math/bits.deBruijn32tab", "math/bits.deBruijn64tab", "internal/bytealg.MaxLen"], plainKeys := false, apart := false, laid := [("math/bits.deBruijn32tab", laid_math_bits_deBruijn32tab), ("math/bits.deBruijn64tab", laid_math_bits_deBruijn64tab), ("unicode/utf8.acceptRanges", laid_unicode_utf8_acceptRanges), ("unicode/utf8.first", laid_unicode_utf8_first)], narrowed := true }
def QuireFoldsUptoSaid : Prop := quireFoldsUptoRow.holds Tryd.pinned (OpenSpec.upto quireFoldsSpec)

/-- 'headwordlaw03.QuireCreases', WHERE WHAT IT READS IS OF BULK AT MOST 1048576: true; the input reads as it did. -/
def quireCreasesUptoRow : OpenClaim := { program := "ytcjephdjemapbaadoor", sum := "3025ce230ae9597e8b65ac69dd9652858bbfa75d6521d52d902b853f60def4fa", func := "headword/headwordlaw03.QuireCreases", spec := "quireCreases", inPlace := ["internal/bytealg.IndexByteString", "internal/bytealg.IndexString"], unfollowed := true, recurses := true, named := ["unicode/utf8.first", "unicode/utf8.acceptRanges", "math/bits.deBruijn32tab", "math/bits.deBruijn64tab", "internal/bytealg.MaxLen"], plainKeys := false, apart := false, laid := [("math/bits.deBruijn32tab", laid_math_bits_deBruijn32tab), ("math/bits.deBruijn64tab", laid_math_bits_deBruijn64tab), ("unicode/utf8.acceptRanges", laid_unicode_utf8_acceptRanges), ("unicode/utf8.first", laid_unicode_utf8_first)], narrowed := true }
def QuireCreasesUptoSaid : Prop := quireCreasesUptoRow.holds Tryd.pinned (OpenSpec.upto quireCreasesSpec)

/-- 'headwordlaw03.QuireWalks', WHERE WHAT IT READS IS OF BULK AT MOST 1048576: true; the input reads as it did. -/
def quireWalksUptoRow : OpenClaim := { program := "ytcjephdjemapbaadoor", sum := "3025ce230ae9597e8b65ac69dd9652858bbfa75d6521d52d902b853f60def4fa", func := "headword/headwordlaw03.QuireWalks", spec := "quireWalks", inPlace := ["internal/bytealg.IndexByteString", "internal/bytealg.IndexString"], unfollowed := true, recurses := true, named := ["unicode/utf8.first", "unicode/utf8.acceptRanges", "math/bits.deBruijn32tab", "math/bits.deBruijn64tab", "internal/bytealg.MaxLen"], plainKeys := false, apart := false, laid := [("math/bits.deBruijn32tab", laid_math_bits_deBruijn32tab), ("math/bits.deBruijn64tab", laid_math_bits_deBruijn64tab), ("unicode/utf8.acceptRanges", laid_unicode_utf8_acceptRanges), ("unicode/utf8.first", laid_unicode_utf8_first)], narrowed := true }
def QuireWalksUptoSaid : Prop := quireWalksUptoRow.holds Tryd.pinned (OpenSpec.upto quireWalksSpec)

/-- 'headwordlaw03.QuirePiles', WHERE WHAT IT READS IS OF BULK AT MOST 1048576: true; the input reads as it did. -/
def quirePilesUptoRow : OpenClaim := { program := "ytcjephdjemapbaadoor", sum := "3025ce230ae9597e8b65ac69dd9652858bbfa75d6521d52d902b853f60def4fa", func := "headword/headwordlaw03.QuirePiles", spec := "quirePiles", inPlace := ["internal/bytealg.IndexByteString", "internal/bytealg.IndexString"], unfollowed := true, recurses := true, named := ["unicode/utf8.first", "unicode/utf8.acceptRanges", "math/bits.deBruijn32tab", "math/bits.deBruijn64tab", "internal/bytealg.MaxLen"], plainKeys := false, apart := false, laid := [("math/bits.deBruijn32tab", laid_math_bits_deBruijn32tab), ("math/bits.deBruijn64tab", laid_math_bits_deBruijn64tab), ("unicode/utf8.acceptRanges", laid_unicode_utf8_acceptRanges), ("unicode/utf8.first", laid_unicode_utf8_first)], narrowed := true }
def QuirePilesUptoSaid : Prop := quirePilesUptoRow.holds Tryd.pinned (OpenSpec.upto quirePilesSpec)

/-- 'headwordlaw03.QuireDragon', WHERE WHAT IT READS IS OF BULK AT MOST 1048576: true; the input reads as it did. -/
def quireDragonUptoRow : OpenClaim := { program := "ytcjephdjemapbaadoor", sum := "3025ce230ae9597e8b65ac69dd9652858bbfa75d6521d52d902b853f60def4fa", func := "headword/headwordlaw03.QuireDragon", spec := "quireDragon", inPlace := ["internal/bytealg.IndexByteString", "internal/bytealg.IndexString"], unfollowed := true, recurses := true, named := ["unicode/utf8.first", "unicode/utf8.acceptRanges", "math/bits.deBruijn32tab", "math/bits.deBruijn64tab", "internal/bytealg.MaxLen"], plainKeys := false, apart := false, laid := [("math/bits.deBruijn32tab", laid_math_bits_deBruijn32tab), ("math/bits.deBruijn64tab", laid_math_bits_deBruijn64tab), ("unicode/utf8.acceptRanges", laid_unicode_utf8_acceptRanges), ("unicode/utf8.first", laid_unicode_utf8_first)], narrowed := true }
def QuireDragonUptoSaid : Prop := quireDragonUptoRow.holds Tryd.pinned (OpenSpec.upto quireDragonSpec)

/-- 'headwordlaw03.QuireLanes', WHERE WHAT IT READS IS OF BULK AT MOST 1048576: true; the input reads as it did. -/
def quireLanesUptoRow : OpenClaim := { program := "ytcjephdjemapbaadoor", sum := "3025ce230ae9597e8b65ac69dd9652858bbfa75d6521d52d902b853f60def4fa", func := "headword/headwordlaw03.QuireLanes", spec := "quireLanes", inPlace := ["internal/bytealg.IndexByteString", "internal/bytealg.IndexString"], unfollowed := true, recurses := true, named := ["unicode/utf8.first", "unicode/utf8.acceptRanges", "math/bits.deBruijn32tab", "math/bits.deBruijn64tab", "internal/bytealg.MaxLen"], plainKeys := false, apart := false, laid := [("math/bits.deBruijn32tab", laid_math_bits_deBruijn32tab), ("math/bits.deBruijn64tab", laid_math_bits_deBruijn64tab), ("unicode/utf8.acceptRanges", laid_unicode_utf8_acceptRanges), ("unicode/utf8.first", laid_unicode_utf8_first)], narrowed := true }
def QuireLanesUptoSaid : Prop := quireLanesUptoRow.holds Tryd.pinned (OpenSpec.upto quireLanesSpec)

/-- 'headwordlaw03.QuireTried', WHERE WHAT IT READS IS OF BULK AT MOST 1048576: true; the input reads as it did. -/
def quireTriedUptoRow : OpenClaim := { program := "ytcjephdjemapbaadoor", sum := "3025ce230ae9597e8b65ac69dd9652858bbfa75d6521d52d902b853f60def4fa", func := "headword/headwordlaw03.QuireTried", spec := "quireTried", inPlace := ["internal/bytealg.IndexByteString", "internal/bytealg.IndexString"], unfollowed := true, recurses := true, named := ["unicode/utf8.first", "unicode/utf8.acceptRanges", "math/bits.deBruijn32tab", "math/bits.deBruijn64tab", "internal/bytealg.MaxLen"], plainKeys := false, apart := false, laid := [("math/bits.deBruijn32tab", laid_math_bits_deBruijn32tab), ("math/bits.deBruijn64tab", laid_math_bits_deBruijn64tab), ("unicode/utf8.acceptRanges", laid_unicode_utf8_acceptRanges), ("unicode/utf8.first", laid_unicode_utf8_first)], narrowed := true }
def QuireTriedUptoSaid : Prop := quireTriedUptoRow.holds Tryd.pinned (OpenSpec.upto quireTriedSpec)

/-- 'headwordlaw03.QuireMirror', WHERE WHAT IT READS IS OF BULK AT MOST 1048576: true; the input reads as it did. -/
def quireMirrorUptoRow : OpenClaim := { program := "ytcjephdjemapbaadoor", sum := "3025ce230ae9597e8b65ac69dd9652858bbfa75d6521d52d902b853f60def4fa", func := "headword/headwordlaw03.QuireMirror", spec := "quireMirror", inPlace := ["internal/bytealg.IndexByteString", "internal/bytealg.IndexString"], unfollowed := true, recurses := true, named := ["unicode/utf8.first", "unicode/utf8.acceptRanges", "math/bits.deBruijn32tab", "math/bits.deBruijn64tab", "internal/bytealg.MaxLen"], plainKeys := false, apart := false, laid := [("math/bits.deBruijn32tab", laid_math_bits_deBruijn32tab), ("math/bits.deBruijn64tab", laid_math_bits_deBruijn64tab), ("unicode/utf8.acceptRanges", laid_unicode_utf8_acceptRanges), ("unicode/utf8.first", laid_unicode_utf8_first)], narrowed := true }
def QuireMirrorUptoSaid : Prop := quireMirrorUptoRow.holds Tryd.pinned (OpenSpec.upto quireMirrorSpec)

/-- 'headwordlaw03.QuirePairs', WHERE WHAT IT READS IS OF BULK AT MOST 1048576: true; the input reads as it did. -/
def quirePairsUptoRow : OpenClaim := { program := "ytcjephdjemapbaadoor", sum := "3025ce230ae9597e8b65ac69dd9652858bbfa75d6521d52d902b853f60def4fa", func := "headword/headwordlaw03.QuirePairs", spec := "quirePairs", inPlace := ["internal/bytealg.IndexByteString", "internal/bytealg.IndexString"], unfollowed := true, recurses := true, named := ["unicode/utf8.first", "unicode/utf8.acceptRanges", "math/bits.deBruijn32tab", "math/bits.deBruijn64tab", "internal/bytealg.MaxLen"], plainKeys := false, apart := false, laid := [("math/bits.deBruijn32tab", laid_math_bits_deBruijn32tab), ("math/bits.deBruijn64tab", laid_math_bits_deBruijn64tab), ("unicode/utf8.acceptRanges", laid_unicode_utf8_acceptRanges), ("unicode/utf8.first", laid_unicode_utf8_first)], narrowed := true }
def QuirePairsUptoSaid : Prop := quirePairsUptoRow.holds Tryd.pinned (OpenSpec.upto quirePairsSpec)

/-- 'headwordlaw03.QuireKnown', WHERE WHAT IT READS IS OF BULK AT MOST 1048576: true; the input reads as it did. -/
def quireKnownUptoRow : OpenClaim := { program := "ytcjephdjemapbaadoor", sum := "3025ce230ae9597e8b65ac69dd9652858bbfa75d6521d52d902b853f60def4fa", func := "headword/headwordlaw03.QuireKnown", spec := "quireKnown", inPlace := ["internal/bytealg.IndexByteString", "internal/bytealg.IndexString"], unfollowed := true, recurses := true, named := ["unicode/utf8.first", "unicode/utf8.acceptRanges", "math/bits.deBruijn32tab", "math/bits.deBruijn64tab", "internal/bytealg.MaxLen"], plainKeys := false, apart := false, laid := [("math/bits.deBruijn32tab", laid_math_bits_deBruijn32tab), ("math/bits.deBruijn64tab", laid_math_bits_deBruijn64tab), ("unicode/utf8.acceptRanges", laid_unicode_utf8_acceptRanges), ("unicode/utf8.first", laid_unicode_utf8_first)], narrowed := true }
def QuireKnownUptoSaid : Prop := quireKnownUptoRow.holds Tryd.pinned (OpenSpec.upto quireKnownSpec)

/-- 'headwordlaw03.QuireShaped', WHERE WHAT IT READS IS OF BULK AT MOST 1048576: true; the input reads as it did. -/
def quireShapedUptoRow : OpenClaim := { program := "ytcjephdjemapbaadoor", sum := "3025ce230ae9597e8b65ac69dd9652858bbfa75d6521d52d902b853f60def4fa", func := "headword/headwordlaw03.QuireShaped", spec := "quireShaped", inPlace := ["internal/bytealg.IndexByteString", "internal/bytealg.IndexString"], unfollowed := true, recurses := true, named := ["unicode/utf8.first", "unicode/utf8.acceptRanges", "math/bits.deBruijn32tab", "math/bits.deBruijn64tab", "internal/bytealg.MaxLen"], plainKeys := false, apart := false, laid := [("math/bits.deBruijn32tab", laid_math_bits_deBruijn32tab), ("math/bits.deBruijn64tab", laid_math_bits_deBruijn64tab), ("unicode/utf8.acceptRanges", laid_unicode_utf8_acceptRanges), ("unicode/utf8.first", laid_unicode_utf8_first)], narrowed := true }
def QuireShapedUptoSaid : Prop := quireShapedUptoRow.holds Tryd.pinned (OpenSpec.upto quireShapedSpec)

/-- 'headwordlaw03.QuireUnfolded', WHERE WHAT IT READS IS OF BULK AT MOST 1048576: true; the input reads as it did. -/
def quireUnfoldedUptoRow : OpenClaim := { program := "ytcjephdjemapbaadoor", sum := "3025ce230ae9597e8b65ac69dd9652858bbfa75d6521d52d902b853f60def4fa", func := "headword/headwordlaw03.QuireUnfolded", spec := "quireUnfolded", inPlace := ["internal/bytealg.IndexByteString", "internal/bytealg.IndexString"], unfollowed := true, recurses := true, named := ["unicode/utf8.first", "unicode/utf8.acceptRanges", "math/bits.deBruijn32tab", "math/bits.deBruijn64tab", "internal/bytealg.MaxLen"], plainKeys := false, apart := false, laid := [("math/bits.deBruijn32tab", laid_math_bits_deBruijn32tab), ("math/bits.deBruijn64tab", laid_math_bits_deBruijn64tab), ("unicode/utf8.acceptRanges", laid_unicode_utf8_acceptRanges), ("unicode/utf8.first", laid_unicode_utf8_first)], narrowed := true }
def QuireUnfoldedUptoSaid : Prop := quireUnfoldedUptoRow.holds Tryd.pinned (OpenSpec.upto quireUnfoldedSpec)

/-- 'headwordlaw03.QuireClash', WHERE WHAT IT READS IS OF BULK AT MOST 1048576: true; the input reads as it did. -/
def quireClashUptoRow : OpenClaim := { program := "ytcjephdjemapbaadoor", sum := "3025ce230ae9597e8b65ac69dd9652858bbfa75d6521d52d902b853f60def4fa", func := "headword/headwordlaw03.QuireClash", spec := "quireClash", inPlace := ["internal/bytealg.IndexByteString", "internal/bytealg.IndexString", "internal/abi.NoEscape", "internal/bytealg.MakeNoZero"], unfollowed := true, recurses := true, named := ["unicode/utf8.first", "unicode/utf8.acceptRanges", "math/bits.deBruijn32tab", "math/bits.deBruijn64tab", "internal/bytealg.MaxLen"], plainKeys := false, apart := false, laid := [("math/bits.deBruijn32tab", laid_math_bits_deBruijn32tab), ("math/bits.deBruijn64tab", laid_math_bits_deBruijn64tab), ("unicode/utf8.acceptRanges", laid_unicode_utf8_acceptRanges), ("unicode/utf8.first", laid_unicode_utf8_first)], narrowed := true }
def QuireClashUptoSaid : Prop := quireClashUptoRow.holds Tryd.pinned (OpenSpec.upto quireClashSpec)

/-- 'headwordlaw03.QuireTurned', WHERE WHAT IT READS IS OF BULK AT MOST 1048576: true; the input reads as it did. -/
def quireTurnedUptoRow : OpenClaim := { program := "ytcjephdjemapbaadoor", sum := "3025ce230ae9597e8b65ac69dd9652858bbfa75d6521d52d902b853f60def4fa", func := "headword/headwordlaw03.QuireTurned", spec := "quireTurned", inPlace := ["internal/abi.NoEscape", "internal/bytealg.MakeNoZero", "internal/bytealg.IndexByteString", "internal/bytealg.IndexString"], unfollowed := true, recurses := true, named := ["unicode/utf8.first", "unicode/utf8.acceptRanges", "math/bits.deBruijn32tab", "math/bits.deBruijn64tab", "internal/bytealg.MaxLen"], plainKeys := false, apart := false, laid := [("math/bits.deBruijn32tab", laid_math_bits_deBruijn32tab), ("math/bits.deBruijn64tab", laid_math_bits_deBruijn64tab), ("unicode/utf8.acceptRanges", laid_unicode_utf8_acceptRanges), ("unicode/utf8.first", laid_unicode_utf8_first)], narrowed := true }
def QuireTurnedUptoSaid : Prop := quireTurnedUptoRow.holds Tryd.pinned (OpenSpec.upto quireTurnedSpec)

end Rows
end Go.Proofs.YtcjephdjemapbaaDoor

/-
  No cell of these rows narrows 'for every input' (looked for: loops, veiled, ifaces, maps, wideKeys, modest, calm, conditions, laid).
  DERIVED. THE GIVEN ROWS OF THIS SEAT. 13 by the template 'for every input the law returns true; each argument reads behind the call as it read before'; 0 by the template 'total and deterministic' (their statements: YtmnmfmghmenkkaaTotals.lean).
  GIVEN WITH THE SEED: the statements are not yours to turn. If you find one false, say at which input.
  Laid BY PROGRAM, IN A SANDBOX (cutbox-rows.mjs): the forced cells as the released guide's own fill.sh prints them over the translation 36febbe7eaaa9211… (all of the seat's roots in one cut). By AI agents, Wed Nov 11 2026. No macro, syntax, notation, axiom, sorry.
-/
import Derived.Test.YtmnmfmghmenkkaaChecked
import GoSem.Claim
import GoSem.ClaimJoined
import GoSem.ClaimMapViews
import Derived.JoinedTies
import Derived.KernelRfl
namespace Go.Proofs.Ytmnmfmghmenkkaa
/- THE CELL 'sum', in the pinned program and in every row, IS THE sha256 OF THE DUMP (.gsa) THAT YtmnmfmghmenkkaaProg.lean LOADS. Nothing in Lean hashes anything: it is a label: what it is worth is what the hold of that sum in a sandbox is worth. -/
noncomputable def Try.pinned : Pinned := { name := "ytmnmfmghmenkkaa", sum := "36febbe7eaaa92119bf2799e76754e566e0847017550494dee4d6c9cd40652af", checked := Try.checked }
namespace Rows
def none {H : Type} : Left H := { results := [], args := [] }

/-- 'headwordlaw01.ShortHolds': WHATEVER THE INPUT: true; the input reads as it did. -/
def shortHoldsSpec : ChangeSpec := { name := "shortHolds", fn := fun _ => fun
  | [d1, d2] => { results := [.lit (.bool true)], args := [d1, d2] }
  | _ => none }
def shortHoldsRow : OpenClaim := { program := "ytmnmfmghmenkkaa", sum := "36febbe7eaaa92119bf2799e76754e566e0847017550494dee4d6c9cd40652af", func := "headword/headwordlaw01.ShortHolds", spec := "shortHolds", unfollowed := true, recurses := true, plainKeys := false, apart := false }
def ShortHoldsSaid : Prop := shortHoldsRow.holds Try.pinned (OpenSpec.ofChange shortHoldsSpec)

/-- ITS FALSE NEIGHBOUR: 'it returns false'. Refute it at one input. -/
def shortHoldsWrong : ChangeSpec := { name := "shortHolds", fn := fun _ => fun
  | [d1, d2] => { results := [.lit (.bool false)], args := [d1, d2] }
  | _ => none }
def ShortHoldsWrongFalsely : Prop := shortHoldsRow.holds Try.pinned (OpenSpec.ofChange shortHoldsWrong)

/-- 'headwordlaw01.ShortParts': WHATEVER THE INPUT: true; the input reads as it did. -/
def shortPartsSpec : ChangeSpec := { name := "shortParts", fn := fun _ => fun
  | [d1, d2, d3] => { results := [.lit (.bool true)], args := [d1, d2, d3] }
  | _ => none }
def shortPartsRow : OpenClaim := { program := "ytmnmfmghmenkkaa", sum := "36febbe7eaaa92119bf2799e76754e566e0847017550494dee4d6c9cd40652af", func := "headword/headwordlaw01.ShortParts", spec := "shortParts", unfollowed := true, recurses := true, plainKeys := false, apart := false }
def ShortPartsSaid : Prop := shortPartsRow.holds Try.pinned (OpenSpec.ofChange shortPartsSpec)

/-- ITS FALSE NEIGHBOUR: 'it returns false'. Refute it at one input. -/
def shortPartsWrong : ChangeSpec := { name := "shortParts", fn := fun _ => fun
  | [d1, d2, d3] => { results := [.lit (.bool false)], args := [d1, d2, d3] }
  | _ => none }
def ShortPartsWrongFalsely : Prop := shortPartsRow.holds Try.pinned (OpenSpec.ofChange shortPartsWrong)

/-- 'headwordlaw01.ShortArches': WHATEVER THE INPUT: true; the input reads as it did. -/
def shortArchesSpec : ChangeSpec := { name := "shortArches", fn := fun _ => fun
  | [d1, d2] => { results := [.lit (.bool true)], args := [d1, d2] }
  | _ => none }
def shortArchesRow : OpenClaim := { program := "ytmnmfmghmenkkaa", sum := "36febbe7eaaa92119bf2799e76754e566e0847017550494dee4d6c9cd40652af", func := "headword/headwordlaw01.ShortArches", spec := "shortArches", unfollowed := true, recurses := true, plainKeys := false, apart := false }
def ShortArchesSaid : Prop := shortArchesRow.holds Try.pinned (OpenSpec.ofChange shortArchesSpec)

/-- ITS FALSE NEIGHBOUR: 'it returns false'. Refute it at one input. -/
def shortArchesWrong : ChangeSpec := { name := "shortArches", fn := fun _ => fun
  | [d1, d2] => { results := [.lit (.bool false)], args := [d1, d2] }
  | _ => none }
def ShortArchesWrongFalsely : Prop := shortArchesRow.holds Try.pinned (OpenSpec.ofChange shortArchesWrong)

/-- 'headwordlaw01.ShortApart': WHATEVER THE INPUT: true; the input reads as it did. -/
def shortApartSpec : ChangeSpec := { name := "shortApart", fn := fun _ => fun
  | [d1, d2, d3, d4, d5] => { results := [.lit (.bool true)], args := [d1, d2, d3, d4, d5] }
  | _ => none }
def shortApartRow : OpenClaim := { program := "ytmnmfmghmenkkaa", sum := "36febbe7eaaa92119bf2799e76754e566e0847017550494dee4d6c9cd40652af", func := "headword/headwordlaw01.ShortApart", spec := "shortApart", unfollowed := true, recurses := true, plainKeys := false, apart := false }
def ShortApartSaid : Prop := shortApartRow.holds Try.pinned (OpenSpec.ofChange shortApartSpec)

/-- ITS FALSE NEIGHBOUR: 'it returns false'. Refute it at one input. -/
def shortApartWrong : ChangeSpec := { name := "shortApart", fn := fun _ => fun
  | [d1, d2, d3, d4, d5] => { results := [.lit (.bool false)], args := [d1, d2, d3, d4, d5] }
  | _ => none }
def ShortApartWrongFalsely : Prop := shortApartRow.holds Try.pinned (OpenSpec.ofChange shortApartWrong)

/-- 'headwordlaw01.ShortKnown': WHATEVER THE INPUT: true; the input reads as it did. -/
def shortKnownSpec : ChangeSpec := { name := "shortKnown", fn := fun _ => fun
  | [] => { results := [.lit (.bool true)], args := [] }
  | _ => none }
def shortKnownRow : OpenClaim := { program := "ytmnmfmghmenkkaa", sum := "36febbe7eaaa92119bf2799e76754e566e0847017550494dee4d6c9cd40652af", func := "headword/headwordlaw01.ShortKnown", spec := "shortKnown", unfollowed := true, recurses := true, plainKeys := false, apart := false }
def ShortKnownSaid : Prop := shortKnownRow.holds Try.pinned (OpenSpec.ofChange shortKnownSpec)

/-- ITS FALSE NEIGHBOUR: 'it returns false'. Refute it at one input. -/
def shortKnownWrong : ChangeSpec := { name := "shortKnown", fn := fun _ => fun
  | [] => { results := [.lit (.bool false)], args := [] }
  | _ => none }
def ShortKnownWrongFalsely : Prop := shortKnownRow.holds Try.pinned (OpenSpec.ofChange shortKnownWrong)

/-- 'headwordlaw01.ShortSimon': WHATEVER THE INPUT: true; the input reads as it did. -/
def shortSimonSpec : ChangeSpec := { name := "shortSimon", fn := fun _ => fun
  | [d1, d2, d3] => { results := [.lit (.bool true)], args := [d1, d2, d3] }
  | _ => none }
def shortSimonRow : OpenClaim := { program := "ytmnmfmghmenkkaa", sum := "36febbe7eaaa92119bf2799e76754e566e0847017550494dee4d6c9cd40652af", func := "headword/headwordlaw01.ShortSimon", spec := "shortSimon", inPlace := ["internal/abi.NoEscape"], unfollowed := true, recurses := true, plainKeys := false, apart := false }
def ShortSimonSaid : Prop := shortSimonRow.holds Try.pinned (OpenSpec.ofChange shortSimonSpec)

/-- ITS FALSE NEIGHBOUR: 'it returns false'. Refute it at one input. -/
def shortSimonWrong : ChangeSpec := { name := "shortSimon", fn := fun _ => fun
  | [d1, d2, d3] => { results := [.lit (.bool false)], args := [d1, d2, d3] }
  | _ => none }
def ShortSimonWrongFalsely : Prop := shortSimonRow.holds Try.pinned (OpenSpec.ofChange shortSimonWrong)

/-- 'headwordlaw01.ShortDiffer': WHATEVER THE INPUT: true; the input reads as it did. -/
def shortDifferSpec : ChangeSpec := { name := "shortDiffer", fn := fun _ => fun
  | [d1, d2, d3] => { results := [.lit (.bool true)], args := [d1, d2, d3] }
  | _ => none }
def shortDifferRow : OpenClaim := { program := "ytmnmfmghmenkkaa", sum := "36febbe7eaaa92119bf2799e76754e566e0847017550494dee4d6c9cd40652af", func := "headword/headwordlaw01.ShortDiffer", spec := "shortDiffer", inPlace := ["internal/abi.NoEscape"], unfollowed := true, recurses := true, plainKeys := false, apart := false }
def ShortDifferSaid : Prop := shortDifferRow.holds Try.pinned (OpenSpec.ofChange shortDifferSpec)

/-- ITS FALSE NEIGHBOUR: 'it returns false'. Refute it at one input. -/
def shortDifferWrong : ChangeSpec := { name := "shortDiffer", fn := fun _ => fun
  | [d1, d2, d3] => { results := [.lit (.bool false)], args := [d1, d2, d3] }
  | _ => none }
def ShortDifferWrongFalsely : Prop := shortDifferRow.holds Try.pinned (OpenSpec.ofChange shortDifferWrong)

/-- 'headwordlaw01.ShortCounted': WHATEVER THE INPUT: true; the input reads as it did. -/
def shortCountedSpec : ChangeSpec := { name := "shortCounted", fn := fun _ => fun
  | [d1, d2] => { results := [.lit (.bool true)], args := [d1, d2] }
  | _ => none }
def shortCountedRow : OpenClaim := { program := "ytmnmfmghmenkkaa", sum := "36febbe7eaaa92119bf2799e76754e566e0847017550494dee4d6c9cd40652af", func := "headword/headwordlaw01.ShortCounted", spec := "shortCounted", inPlace := ["internal/abi.NoEscape"], unfollowed := true, recurses := true, plainKeys := false, apart := false }
def ShortCountedSaid : Prop := shortCountedRow.holds Try.pinned (OpenSpec.ofChange shortCountedSpec)

/-- ITS FALSE NEIGHBOUR: 'it returns false'. Refute it at one input. -/
def shortCountedWrong : ChangeSpec := { name := "shortCounted", fn := fun _ => fun
  | [d1, d2] => { results := [.lit (.bool false)], args := [d1, d2] }
  | _ => none }
def ShortCountedWrongFalsely : Prop := shortCountedRow.holds Try.pinned (OpenSpec.ofChange shortCountedWrong)

/-- 'headwordlaw01.ShortMost': WHATEVER THE INPUT: true; the input reads as it did. -/
def shortMostSpec : ChangeSpec := { name := "shortMost", fn := fun _ => fun
  | [d1, d2] => { results := [.lit (.bool true)], args := [d1, d2] }
  | _ => none }
def shortMostRow : OpenClaim := { program := "ytmnmfmghmenkkaa", sum := "36febbe7eaaa92119bf2799e76754e566e0847017550494dee4d6c9cd40652af", func := "headword/headwordlaw01.ShortMost", spec := "shortMost", inPlace := ["internal/abi.NoEscape"], unfollowed := true, recurses := true, plainKeys := false, apart := false }
def ShortMostSaid : Prop := shortMostRow.holds Try.pinned (OpenSpec.ofChange shortMostSpec)

/-- ITS FALSE NEIGHBOUR: 'it returns false'. Refute it at one input. -/
def shortMostWrong : ChangeSpec := { name := "shortMost", fn := fun _ => fun
  | [d1, d2] => { results := [.lit (.bool false)], args := [d1, d2] }
  | _ => none }
def ShortMostWrongFalsely : Prop := shortMostRow.holds Try.pinned (OpenSpec.ofChange shortMostWrong)

/-- 'headwordlaw01.ShortMore': WHATEVER THE INPUT: true; the input reads as it did. -/
def shortMoreSpec : ChangeSpec := { name := "shortMore", fn := fun _ => fun
  | [d1, d2, d3, d4, d5] => { results := [.lit (.bool true)], args := [d1, d2, d3, d4, d5] }
  | _ => none }
def shortMoreRow : OpenClaim := { program := "ytmnmfmghmenkkaa", sum := "36febbe7eaaa92119bf2799e76754e566e0847017550494dee4d6c9cd40652af", func := "headword/headwordlaw01.ShortMore", spec := "shortMore", inPlace := ["internal/abi.NoEscape"], unfollowed := true, recurses := true, plainKeys := false, apart := false }
def ShortMoreSaid : Prop := shortMoreRow.holds Try.pinned (OpenSpec.ofChange shortMoreSpec)

/-- ITS FALSE NEIGHBOUR: 'it returns false'. Refute it at one input. -/
def shortMoreWrong : ChangeSpec := { name := "shortMore", fn := fun _ => fun
  | [d1, d2, d3, d4, d5] => { results := [.lit (.bool false)], args := [d1, d2, d3, d4, d5] }
  | _ => none }
def ShortMoreWrongFalsely : Prop := shortMoreRow.holds Try.pinned (OpenSpec.ofChange shortMoreWrong)

/-- 'headwordlaw01.ShortAlone': WHATEVER THE INPUT: true; the input reads as it did. -/
def shortAloneSpec : ChangeSpec := { name := "shortAlone", fn := fun _ => fun
  | [d1, d2, d3] => { results := [.lit (.bool true)], args := [d1, d2, d3] }
  | _ => none }
def shortAloneRow : OpenClaim := { program := "ytmnmfmghmenkkaa", sum := "36febbe7eaaa92119bf2799e76754e566e0847017550494dee4d6c9cd40652af", func := "headword/headwordlaw01.ShortAlone", spec := "shortAlone", inPlace := ["internal/abi.NoEscape"], unfollowed := true, recurses := true, plainKeys := false, apart := false }
def ShortAloneSaid : Prop := shortAloneRow.holds Try.pinned (OpenSpec.ofChange shortAloneSpec)

/-- ITS FALSE NEIGHBOUR: 'it returns false'. Refute it at one input. -/
def shortAloneWrong : ChangeSpec := { name := "shortAlone", fn := fun _ => fun
  | [d1, d2, d3] => { results := [.lit (.bool false)], args := [d1, d2, d3] }
  | _ => none }
def ShortAloneWrongFalsely : Prop := shortAloneRow.holds Try.pinned (OpenSpec.ofChange shortAloneWrong)

/-- 'headwordlaw01.ShortBridge': WHATEVER THE INPUT: true; the input reads as it did. -/
def shortBridgeSpec : ChangeSpec := { name := "shortBridge", fn := fun _ => fun
  | [d1, d2] => { results := [.lit (.bool true)], args := [d1, d2] }
  | _ => none }
def shortBridgeRow : OpenClaim := { program := "ytmnmfmghmenkkaa", sum := "36febbe7eaaa92119bf2799e76754e566e0847017550494dee4d6c9cd40652af", func := "headword/headwordlaw01.ShortBridge", spec := "shortBridge", inPlace := ["internal/abi.NoEscape", "internal/bytealg.IndexByteString"], unfollowed := true, recurses := true, plainKeys := false, apart := false }
def ShortBridgeSaid : Prop := shortBridgeRow.holds Try.pinned (OpenSpec.ofChange shortBridgeSpec)

/-- ITS FALSE NEIGHBOUR: 'it returns false'. Refute it at one input. -/
def shortBridgeWrong : ChangeSpec := { name := "shortBridge", fn := fun _ => fun
  | [d1, d2] => { results := [.lit (.bool false)], args := [d1, d2] }
  | _ => none }
def ShortBridgeWrongFalsely : Prop := shortBridgeRow.holds Try.pinned (OpenSpec.ofChange shortBridgeWrong)

/-- 'headwordlaw01.ShortBack': WHATEVER THE INPUT: true; the input reads as it did. -/
def shortBackSpec : ChangeSpec := { name := "shortBack", fn := fun _ => fun
  | [d1, d2, d3] => { results := [.lit (.bool true)], args := [d1, d2, d3] }
  | _ => none }
def shortBackRow : OpenClaim := { program := "ytmnmfmghmenkkaa", sum := "36febbe7eaaa92119bf2799e76754e566e0847017550494dee4d6c9cd40652af", func := "headword/headwordlaw01.ShortBack", spec := "shortBack", inPlace := ["internal/abi.NoEscape", "internal/bytealg.IndexByteString"], unfollowed := true, recurses := true, plainKeys := false, apart := false }
def ShortBackSaid : Prop := shortBackRow.holds Try.pinned (OpenSpec.ofChange shortBackSpec)

/-- ITS FALSE NEIGHBOUR: 'it returns false'. Refute it at one input. -/
def shortBackWrong : ChangeSpec := { name := "shortBack", fn := fun _ => fun
  | [d1, d2, d3] => { results := [.lit (.bool false)], args := [d1, d2, d3] }
  | _ => none }
def ShortBackWrongFalsely : Prop := shortBackRow.holds Try.pinned (OpenSpec.ofChange shortBackWrong)

/- THE SECOND FORM. 'bulk': how many values and letters a reading holds, each counted each time it is reached (what is shared counts as often as it is met; a slice's spare places count too). A statement '..UptoSaid' is the law's where the arguments, and the package variables that the reading takes, are together of bulk at most 1048576: NARROWER than '..Said'. Prove '..Said' where nothing that the law and all that it calls make is longer than what came in: it says more and counts as full. Else prove '..UptoSaid'. A law counts once. -/
mutual
def uptoBulk {H : Type} : DataW H → Nat
  | .lit (.string bytes) => bytes.length + 1
  | .lit _ => 1
  | .nil => 1
  | .ptr d => uptoBulk d + 1
  | .slice elems spare => uptoBulkAll elems + uptoBulkAll spare + 1
  | .agg parts => uptoBulkAll parts + 1
  | .iface _ d => uptoBulk d + 1
  | .map entries => uptoBulkEntries entries + 1
  | .held _ => 1
def uptoBulkAll {H : Type} : List (DataW H) → Nat
  | [] => 0
  | d :: r => uptoBulk d + uptoBulkAll r
def uptoBulkEntries {H : Type} : List (Lit × DataW H) → Nat
  | [] => 0
  | x :: r => uptoBulkEntry x + uptoBulkEntries r
def uptoBulkEntry {H : Type} : Lit × DataW H → Nat
  | (.string bytes, d) => bytes.length + uptoBulk d + 1
  | (_, d) => uptoBulk d + 1
 end
def uptoSmall : (H : Type) → List (DataW H) → Bool := fun _ ds => decide (uptoBulkAll ds ≤ 1048576)
def OpenSpec.upto (s : _root_.Go.ChangeSpec) : _root_.Go.OpenSpec := { _root_.Go.OpenSpec.ofChange s with cond := some uptoSmall }

/-- 'headwordlaw01.ShortHolds', WHERE WHAT IT READS IS OF BULK AT MOST 1048576: true; the input reads as it did. -/
def shortHoldsUptoRow : OpenClaim := { program := "ytmnmfmghmenkkaa", sum := "36febbe7eaaa92119bf2799e76754e566e0847017550494dee4d6c9cd40652af", func := "headword/headwordlaw01.ShortHolds", spec := "shortHolds", unfollowed := true, recurses := true, plainKeys := false, apart := false, narrowed := true }
def ShortHoldsUptoSaid : Prop := shortHoldsUptoRow.holds Try.pinned (OpenSpec.upto shortHoldsSpec)

/-- 'headwordlaw01.ShortParts', WHERE WHAT IT READS IS OF BULK AT MOST 1048576: true; the input reads as it did. -/
def shortPartsUptoRow : OpenClaim := { program := "ytmnmfmghmenkkaa", sum := "36febbe7eaaa92119bf2799e76754e566e0847017550494dee4d6c9cd40652af", func := "headword/headwordlaw01.ShortParts", spec := "shortParts", unfollowed := true, recurses := true, plainKeys := false, apart := false, narrowed := true }
def ShortPartsUptoSaid : Prop := shortPartsUptoRow.holds Try.pinned (OpenSpec.upto shortPartsSpec)

/-- 'headwordlaw01.ShortArches', WHERE WHAT IT READS IS OF BULK AT MOST 1048576: true; the input reads as it did. -/
def shortArchesUptoRow : OpenClaim := { program := "ytmnmfmghmenkkaa", sum := "36febbe7eaaa92119bf2799e76754e566e0847017550494dee4d6c9cd40652af", func := "headword/headwordlaw01.ShortArches", spec := "shortArches", unfollowed := true, recurses := true, plainKeys := false, apart := false, narrowed := true }
def ShortArchesUptoSaid : Prop := shortArchesUptoRow.holds Try.pinned (OpenSpec.upto shortArchesSpec)

/-- 'headwordlaw01.ShortApart', WHERE WHAT IT READS IS OF BULK AT MOST 1048576: true; the input reads as it did. -/
def shortApartUptoRow : OpenClaim := { program := "ytmnmfmghmenkkaa", sum := "36febbe7eaaa92119bf2799e76754e566e0847017550494dee4d6c9cd40652af", func := "headword/headwordlaw01.ShortApart", spec := "shortApart", unfollowed := true, recurses := true, plainKeys := false, apart := false, narrowed := true }
def ShortApartUptoSaid : Prop := shortApartUptoRow.holds Try.pinned (OpenSpec.upto shortApartSpec)

/-- 'headwordlaw01.ShortKnown', WHERE WHAT IT READS IS OF BULK AT MOST 1048576: true; the input reads as it did. -/
def shortKnownUptoRow : OpenClaim := { program := "ytmnmfmghmenkkaa", sum := "36febbe7eaaa92119bf2799e76754e566e0847017550494dee4d6c9cd40652af", func := "headword/headwordlaw01.ShortKnown", spec := "shortKnown", unfollowed := true, recurses := true, plainKeys := false, apart := false, narrowed := true }
def ShortKnownUptoSaid : Prop := shortKnownUptoRow.holds Try.pinned (OpenSpec.upto shortKnownSpec)

/-- 'headwordlaw01.ShortSimon', WHERE WHAT IT READS IS OF BULK AT MOST 1048576: true; the input reads as it did. -/
def shortSimonUptoRow : OpenClaim := { program := "ytmnmfmghmenkkaa", sum := "36febbe7eaaa92119bf2799e76754e566e0847017550494dee4d6c9cd40652af", func := "headword/headwordlaw01.ShortSimon", spec := "shortSimon", inPlace := ["internal/abi.NoEscape"], unfollowed := true, recurses := true, plainKeys := false, apart := false, narrowed := true }
def ShortSimonUptoSaid : Prop := shortSimonUptoRow.holds Try.pinned (OpenSpec.upto shortSimonSpec)

/-- 'headwordlaw01.ShortDiffer', WHERE WHAT IT READS IS OF BULK AT MOST 1048576: true; the input reads as it did. -/
def shortDifferUptoRow : OpenClaim := { program := "ytmnmfmghmenkkaa", sum := "36febbe7eaaa92119bf2799e76754e566e0847017550494dee4d6c9cd40652af", func := "headword/headwordlaw01.ShortDiffer", spec := "shortDiffer", inPlace := ["internal/abi.NoEscape"], unfollowed := true, recurses := true, plainKeys := false, apart := false, narrowed := true }
def ShortDifferUptoSaid : Prop := shortDifferUptoRow.holds Try.pinned (OpenSpec.upto shortDifferSpec)

/-- 'headwordlaw01.ShortCounted', WHERE WHAT IT READS IS OF BULK AT MOST 1048576: true; the input reads as it did. -/
def shortCountedUptoRow : OpenClaim := { program := "ytmnmfmghmenkkaa", sum := "36febbe7eaaa92119bf2799e76754e566e0847017550494dee4d6c9cd40652af", func := "headword/headwordlaw01.ShortCounted", spec := "shortCounted", inPlace := ["internal/abi.NoEscape"], unfollowed := true, recurses := true, plainKeys := false, apart := false, narrowed := true }
def ShortCountedUptoSaid : Prop := shortCountedUptoRow.holds Try.pinned (OpenSpec.upto shortCountedSpec)

/-- 'headwordlaw01.ShortMost', WHERE WHAT IT READS IS OF BULK AT MOST 1048576: true; the input reads as it did. -/
def shortMostUptoRow : OpenClaim := { program := "ytmnmfmghmenkkaa", sum := "36febbe7eaaa92119bf2799e76754e566e0847017550494dee4d6c9cd40652af", func := "headword/headwordlaw01.ShortMost", spec := "shortMost", inPlace := ["internal/abi.NoEscape"], unfollowed := true, recurses := true, plainKeys := false, apart := false, narrowed := true }
def ShortMostUptoSaid : Prop := shortMostUptoRow.holds Try.pinned (OpenSpec.upto shortMostSpec)

/-- 'headwordlaw01.ShortMore', WHERE WHAT IT READS IS OF BULK AT MOST 1048576: true; the input reads as it did. -/
def shortMoreUptoRow : OpenClaim := { program := "ytmnmfmghmenkkaa", sum := "36febbe7eaaa92119bf2799e76754e566e0847017550494dee4d6c9cd40652af", func := "headword/headwordlaw01.ShortMore", spec := "shortMore", inPlace := ["internal/abi.NoEscape"], unfollowed := true, recurses := true, plainKeys := false, apart := false, narrowed := true }
def ShortMoreUptoSaid : Prop := shortMoreUptoRow.holds Try.pinned (OpenSpec.upto shortMoreSpec)

/-- 'headwordlaw01.ShortAlone', WHERE WHAT IT READS IS OF BULK AT MOST 1048576: true; the input reads as it did. -/
def shortAloneUptoRow : OpenClaim := { program := "ytmnmfmghmenkkaa", sum := "36febbe7eaaa92119bf2799e76754e566e0847017550494dee4d6c9cd40652af", func := "headword/headwordlaw01.ShortAlone", spec := "shortAlone", inPlace := ["internal/abi.NoEscape"], unfollowed := true, recurses := true, plainKeys := false, apart := false, narrowed := true }
def ShortAloneUptoSaid : Prop := shortAloneUptoRow.holds Try.pinned (OpenSpec.upto shortAloneSpec)

/-- 'headwordlaw01.ShortBridge', WHERE WHAT IT READS IS OF BULK AT MOST 1048576: true; the input reads as it did. -/
def shortBridgeUptoRow : OpenClaim := { program := "ytmnmfmghmenkkaa", sum := "36febbe7eaaa92119bf2799e76754e566e0847017550494dee4d6c9cd40652af", func := "headword/headwordlaw01.ShortBridge", spec := "shortBridge", inPlace := ["internal/abi.NoEscape", "internal/bytealg.IndexByteString"], unfollowed := true, recurses := true, plainKeys := false, apart := false, narrowed := true }
def ShortBridgeUptoSaid : Prop := shortBridgeUptoRow.holds Try.pinned (OpenSpec.upto shortBridgeSpec)

/-- 'headwordlaw01.ShortBack', WHERE WHAT IT READS IS OF BULK AT MOST 1048576: true; the input reads as it did. -/
def shortBackUptoRow : OpenClaim := { program := "ytmnmfmghmenkkaa", sum := "36febbe7eaaa92119bf2799e76754e566e0847017550494dee4d6c9cd40652af", func := "headword/headwordlaw01.ShortBack", spec := "shortBack", inPlace := ["internal/abi.NoEscape", "internal/bytealg.IndexByteString"], unfollowed := true, recurses := true, plainKeys := false, apart := false, narrowed := true }
def ShortBackUptoSaid : Prop := shortBackUptoRow.holds Try.pinned (OpenSpec.upto shortBackSpec)

end Rows
end Go.Proofs.Ytmnmfmghmenkkaa

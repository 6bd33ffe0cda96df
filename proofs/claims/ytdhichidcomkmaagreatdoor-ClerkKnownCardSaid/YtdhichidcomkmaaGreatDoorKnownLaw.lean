/-
  The facts of ClerkKnown, plainly.
  Printed by wip/tools/known14.py. Conditions: none; definitions and lemmas.
-/
import Derived.Test.YtdhichidcomkmaaGreatDoorRead31
set_option linter.unusedSimpArgs false
set_option linter.unusedVariables false
namespace Go.Proofs.YtdhichidcomkmaaGreatDoor
open Go.Clerk
set_option maxRecDepth 100000
def oS1 : Off := (tell Off.none [119, 111, 114, 100, 32, 109, 97, 112]).2
def ls3 : List Tx := [[119, 111, 114, 100, 32, 109, 97, 112], [119, 111, 114, 100, 32, 109, 111, 112]]
def oS3 : Off := (tellAll ls3 Off.none).getD Off.none
def oS3b : Off := (tell oS3 [115, 104, 111, 114, 116, 32, 109, 97, 112, 32, 109, 97]).2
def ls4 : List Tx := [[119, 111, 114, 100, 32, 97], [119, 111, 114, 100, 32, 98], [119, 111, 114, 100, 32, 99], [115, 101, 101, 32, 97, 32, 98], [115, 101, 101, 32, 98, 32, 99]]
def oS4 : Off := (tellAll ls4 Off.none).getD Off.none
theorem told3 : tellAll ls3 Off.none = some oS3 := by kernel_rfl
theorem told4 : tellAll ls4 Off.none = some oS4 := by kernel_rfl
theorem kn1 : tell Off.none [119, 111, 114, 100, 32, 77, 97, 112] = (8, Off.none) := by kernel_rfl
theorem kn2 : tell Off.none [119, 111, 114, 100] = (10, Off.none) := by kernel_rfl
theorem kn3 : tell Off.none [119, 111, 114, 100, 32, 109, 97, 112, 32, 97, 110, 110] = (10, Off.none) := by kernel_rfl
theorem kn4 : tell Off.none [117, 110, 100, 111] = (4, Off.none) := by kernel_rfl
theorem kn5 : tell Off.none [103, 105, 118, 101, 32, 109, 97, 112, 32, 97, 110, 110, 32, 49] = (2, Off.none) := by kernel_rfl
theorem kn6 : tell Off.none [99, 108, 111, 115, 101, 32, 109, 109] = (8, Off.none) := by kernel_rfl
theorem kn7 : tell Off.none [112, 97, 121, 32, 116, 111, 109, 32, 48, 53] = (10, Off.none) := by kernel_rfl
theorem kn8 : tell Off.none [119, 111, 114, 100, 32, 109, 97, 112] = (0, oS1) := Prod.ext (by kernel_rfl) rfl
theorem kn9 : textOf oS1.lines = [104, 101, 97, 100, 119, 111, 114, 100, 10, 119, 111, 114, 100, 32, 109, 97, 112, 10, 101, 110, 100, 32, 53, 53, 53, 50, 10] := by kernel_rfl
theorem kn11 (P : List Desk) : tell ⟨d8, P, exA⟩ [103, 105, 118, 101, 32, 109, 97, 112, 32, 97, 110, 110, 32, 49] = (6, ⟨d8, P, exA⟩) := by kernel_rfl
theorem kn12 (P : List Desk) : tell ⟨d8, P, exA⟩ [119, 111, 114, 100, 32, 97, 112, 116] = (20, ⟨d8, P, exA⟩) := by kernel_rfl
theorem kn13 (P : List Desk) : tell ⟨d8, P, exA⟩ [115, 104, 111, 114, 116, 32, 109, 97, 115, 116, 32, 109, 116] = (0, (tell ⟨d8, P, exA⟩ [115, 104, 111, 114, 116, 32, 109, 97, 115, 116, 32, 109, 116]).2) := Prod.ext (by kernel_rfl) rfl
theorem kn14 : tell oS3 [115, 104, 111, 114, 116, 32, 109, 97, 112, 32, 109, 112] = (13, oS3) := by kernel_rfl
theorem kn15 : tell oS3 [115, 104, 111, 114, 116, 32, 109, 97, 112, 32, 109, 97] = (0, oS3b) := Prod.ext (by kernel_rfl) rfl
theorem kn16 : tell oS3b [119, 111, 114, 100, 32, 109, 97, 114, 115] = (13, oS3b) := by kernel_rfl
theorem kn17 : oS4.now.wayOf [97] = ([[97], [98], [99]], 0) := by kernel_rfl
theorem kn18 : tell oS4 [115, 101, 101, 32, 99, 32, 97] = (13, oS4) := by kernel_rfl
theorem kn19 : readT [104, 101, 97, 100, 119, 111, 114, 100, 10] = (none, 9) := by kernel_rfl
theorem kn20 : readT [104, 101, 97, 100, 119, 111, 114, 100, 10, 101, 110, 100, 32, 48, 10] = (none, 18) := by kernel_rfl
theorem kn21 : readT [104, 101, 97, 100, 119, 111, 114, 100, 10, 101, 110, 100, 32, 57, 56, 54, 51, 10] = (some Off.none, 0) := by kernel_rfl
theorem few4 : oS4.now.ents.length ≤ 1000 := by decide
end Go.Proofs.YtdhichidcomkmaaGreatDoor

/-
  The example of the chapter, plainly.
  Conditions: none; definitions and lemmas.
-/
import Derived.Test.YtdhichidcomkmaaGreatDoorSame24
set_option linter.unusedSimpArgs false
set_option linter.unusedVariables false
namespace Go.Proofs.YtdhichidcomkmaaGreatDoor
open Go.Clerk
set_option maxRecDepth 100000
def kMap : Tx := [109, 97, 112]
def kMast : Tx := [109, 97, 115, 116]
def kMp : Tx := [109, 112]
def kMt : Tx := [109, 116]
def kAnn : Tx := [97, 110, 110]
def kBen : Tx := [98, 101, 110]
def kTom : Tx := [116, 111, 109]
def d7 : Desk := ⟨[⟨kMap, kMp, [], kAnn, 30, 40, 0⟩, ⟨kMast, [], [], kBen, 10, 0, 0⟩], [⟨kTom, 50, 0, false⟩], [], 0⟩
def d8 : Desk := ⟨[⟨kMap, kMp, [], kAnn, 30, 40, 1⟩, ⟨kMast, [], [], kBen, 10, 0, 0⟩], [⟨kTom, 30, 1, false⟩], [⟨[109], [kMap], 40, 1⟩], 109⟩
theorem told7 : ∃ P, tellAll (exA.take 7) Off.none = some ⟨d7, P, exA.take 7⟩ := ⟨((tellAll (exA.take 7) Off.none).getD Off.none).past, by kernel_rfl⟩
theorem close8 : doClose 109 d7 = (0, d8) := by
 have h1 : doClose 109 d7 = (0, closeD 109 d7) := by kernel_rfl
 rw [h1]
 have h2 : volOf 109 d7 = ⟨[109], [kMap], 40, 1⟩ := by
  have h3 : ((d7.ents.filter (closes 109)).map (·.word)) = [kMap] := by kernel_rfl
  have h4 : volOf 109 d7 = ⟨[109], ((d7.ents.filter (closes 109)).map (·.word)).mergeSort leT, 40, 1⟩ := by kernel_rfl
  rw [h4, h3, List.mergeSort_singleton]
 have h5 : closeD 109 d7 = ⟨d8.ents, d8.accs, [volOf 109 d7], 109⟩ := by kernel_rfl
 rw [h5, h2]
 rfl
theorem told8 : ∃ P, tellAll exA Off.none = some ⟨d8, P, exA⟩ := by
 obtain ⟨P, h⟩ := told7
 have e : exA = exA.take 7 ++ [[99, 108, 111, 115, 101, 32, 109]] := by kernel_rfl
 refine ⟨P ++ [d7], ?_⟩
 rw [e, tellAll_snoc, h]
 simp only [Option.bind_some]
 have hp : parse [99, 108, 111, 115, 101, 32, 109] = (some (.close 109), 0) := by kernel_rfl
 have ht := tell_taken_eq (S := ⟨d7, P, exA.take 7⟩) hp (by show (exA.take 7).length ≠ 150; decide) (by show (doClose 109 d7).1 = 0; rw [close8])
 rw [ht]
 show some _ = some _
 have : (doO (.close 109) d7).2 = d8 := by show (doClose 109 d7).2 = d8; rw [close8]
 simp only [this]
theorem acc8 : d8.accounts = [⟨kTom, 30, 1, false⟩] := by
 unfold Desk.accounts
 show List.mergeSort [_] _ = _
 rw [List.mergeSort_singleton]
theorem late8 : d8.late = [kMast] := by
 unfold Desk.late
 have : ((d8.ents.filter fun e => !e.writer.isEmpty && decide (e.came = 0) && d8.shut e.word).map (·.word)) = [kMast] := by kernel_rfl
 rw [this, List.mergeSort_singleton]
theorem wri8 : d8.writers = [(kAnn, 40), (kBen, 0)] := by
 unfold Desk.writers
 have h1 : (((d8.ents.filter fun e => !e.writer.isEmpty).map (·.writer)).foldl (fun l w => addT w l) []) = [kAnn, kBen] := by kernel_rfl
 have h2 : [kAnn, kBen].mergeSort leT = [kAnn, kBen] := sort_eq (List.Perm.refl _) (by
  rw [List.pairwise_cons]
  refine ⟨fun a ha => ?_, List.pairwise_singleton _ _⟩
  rw [List.mem_singleton.1 ha]
  decide)
 refine (congrArg (fun l => List.map (fun w => (w, sumN ((d8.ents.filter fun e => decide (e.writer = w)).map (·.came)))) l) (?_ : _ = [kAnn, kBen])).trans ?_
 ·rw [h1, h2]
 ·rfl
theorem find8a : d8.find kMp = (kMap, 0) := by kernel_rfl
theorem find8b : d8.find kMt = ([], 2) := by kernel_rfl
theorem way8 : d8.wayOf kMap = ([kMap], 0) := by kernel_rfl
def lMop : Tx := [119, 111, 114, 100, 32, 109, 111, 112]
def lCome : Tx := [99, 111, 109, 101, 32, 109, 97, 115, 116, 32, 49, 48]
def lClose : Tx := [99, 108, 111, 115, 101, 32, 97]
def lStop : Tx := [115, 116, 111, 112, 32, 97, 110, 110]
def lNap : Tx := [119, 111, 114, 100, 32, 110, 97, 112]
def lUndo : Tx := [117, 110, 100, 111]
theorem tell8a (P : List Desk) : tell ⟨d8, P, exA⟩ lMop = (20, ⟨d8, P, exA⟩) := by kernel_rfl
theorem tell8b (P : List Desk) : tell ⟨d8, P, exA⟩ lCome = (20, ⟨d8, P, exA⟩) := by kernel_rfl
theorem tell8c (P : List Desk) : tell ⟨d8, P, exA⟩ lClose = (7, ⟨d8, P, exA⟩) := by kernel_rfl
theorem tell8d (P : List Desk) : tell ⟨d8, P, exA⟩ lStop = (2, ⟨d8, P, exA⟩) := by kernel_rfl
theorem tell8e (P : List Desk) : (tell ⟨d8, P, exA⟩ lNap).1 = 0 ∧ (tell (tell ⟨d8, P, exA⟩ lNap).2 lUndo).1 = 0 := ⟨by kernel_rfl, by kernel_rfl⟩
theorem text0 : textOf [] = [104, 101, 97, 100, 119, 111, 114, 100, 10, 101, 110, 100, 32, 57, 56, 54, 51, 10] := by kernel_rfl
end Go.Proofs.YtdhichidcomkmaaGreatDoor

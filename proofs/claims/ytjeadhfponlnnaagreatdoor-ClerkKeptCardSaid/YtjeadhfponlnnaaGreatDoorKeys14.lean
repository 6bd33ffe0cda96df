/-
  The keys of a map, sorted.
  Conditions: none; lemmas.
-/
import Derived.Test.YtjeadhfponlnnaaGreatDoorShelf14
import Derived.Test.YtjeadhfponlnnaaGreatDoorNew16
import Derived.Sort.KeysCollected
import Derived.Maps.OwnSet
set_option linter.unusedSimpArgs false
set_option linter.unusedVariables false
namespace Go.Proofs.YtjeadhfponlnnaaGreatDoor
open Go.RowKit Go.Pur Go.Clerk Go.Maps Go.Sort Go.Shelf
open Go.Abs
set_option maxRecDepth 100000
abbrev R14 : Value → Option (DataW Unit × List MemPlace) := fun _ => some (.nil, [])
theorem own_map {V : Type} {W : World} {b : Nat} {vf : V → Value} {l : List (Tx × V)} (h : MapAt W b vf l) (hn : (l.map (·.1)).Nodup) (hk : ∀ x ∈ l, x.1.length ≤ 100000) (hsz : l.length ≤ 1000) :
    ∃ D : DataW Unit, W.ownsMap Tryz.prog 9 R14 b l.length D ∧ (strKeys D).Perm (l.map (·.1)) ∧ Maps.size D = l.length := by
  obtain ⟨m, c, h1, rfl, h2, h3⟩ := h
  have hkm : (m.map (·.1)).Nodup := by
    have : (Clerk.kv m).map (·.1) = m.map (·.1) := by unfold Clerk.kv; rw [List.map_map]; rfl
    rw [← this]; exact hn
  have hlk : (Clerk.kv m).length = m.length := by simp [Clerk.kv]
  have hkey : ∀ x ∈ m, keyOf Tryz.prog 9 (sV x.1) = some (.string x.1) := fun x hx => by
    have hl : x.1.length ≤ 100000 := hk (x.1, x.2.1) (List.mem_map_of_mem (f := fun e : Tx × V × Nat => (e.1, e.2.1)) hx)
    unfold keyOf
    rw [Tryz.underlying9]
    have e : (bs x.1).size = x.1.length := by simp [bs, ByteArray.size]
    have h2 : (bs x.1).size ≤ maxLen := by rw [e]; unfold maxLen; omega
    simp [mapKey, Tryz.underlying9, h2]
  have F : Go.WideElems.Fit Tryz.prog 9 R14 (mE sV vf m).toArray c := by
    refine ⟨?_, ⟨?_, ?_, ?_⟩, ?_⟩
    · simp [mE]; rw [hlk] at hsz; unfold maxLen; omega
    · intro x hx
      have hx2 : x ∈ mE sV vf m := by simpa using hx
      unfold mE at hx2
      obtain ⟨y, hy, rfl⟩ := List.mem_map.1 hx2
      exact h2 _ (List.mem_map_of_mem hy)
    · have : (mE sV vf m).toArray.toList.map (·.born) = m.map (·.2.2) := by
        unfold mE
        simp [List.map_map, Function.comp_def]
      rw [this]; exact h3
    · have : (mE sV vf m).toArray.toList.map (·.key) = (m.map (·.1)).map sV := by
        unfold mE
        simp [List.map_map, Function.comp_def]
      rw [this]
      exact List.Pairwise.map _ (fun a b hab e => hab (by simpa [bs] using e)) hkm
    · intro x hx
      have hx2 : x ∈ mE sV vf m := by simpa using hx
      unfold mE at hx2
      obtain ⟨y, hy, rfl⟩ := List.mem_map.1 hx2
      exact ⟨(.string y.1, .nil), Go.WideElems.rd_mk (yv := (.nil, [])) (hkey y hy) rfl⟩
  have hr : ((mE sV vf m).toArray.toList.map (Go.WideElems.rg Tryz.prog 9 R14)) = m.map fun y => ((Lit.string y.1, DataW.nil) : Lit × DataW Unit) := by
    unfold mE
    simp only [List.map_map]
    exact List.map_congr_left fun y hy => Go.WideElems.rg_of (Go.WideElems.rd_mk (yv := (.nil, [])) (hkey y hy) rfl)
  refine ⟨_, (World.ownsMap_of_fit h1 F (fun _ _ _ h => h)).mono (by simp [mE, Clerk.kv]), ?_, ?_⟩
  · unfold strKeys
    rw [hr]
    have hp := (Go.WideShapes.sorted_perm (m.map fun y => ((Lit.string y.1, DataW.nil) : Lit × DataW Unit))).map (fun p => strOf p.1)
    refine hp.trans ?_
    unfold Clerk.kv
    rw [List.map_map, List.map_map]
    exact List.Perm.of_eq rfl
  · rw [hr]
    have hp := (Go.WideShapes.sorted_perm (m.map fun y => ((Lit.string y.1, DataW.nil) : Lit × DataW Unit))).length_eq
    show (List.foldr DataW.insert [] (m.map fun y => ((Lit.string y.1, DataW.nil) : Lit × DataW Unit))).length = _
    rw [hp]
    simp [Clerk.kv]
theorem sorts118 (m : Nat) : AnyZ.SortsIn Tryz.prog Tryz.sorted118_ren Fence.wide m :=
  ⟨fun blk off cap ss W hH hblk hsz => callsIn_wide.2 (AnyM.slices_Sort_string Tryz.sort44 blk off cap ss W hH hblk hsz),
   fun p cap W => callsIn_wide.2 (AnyM.slices_Sort_string_none Tryz.sort44 p cap W)⟩
def SortedP (W : World) (ks : List Tx) (e : Ending) (W' : World) : Prop := ∃ v, e = .returned v ∧ W'.ownsRow W.heap.size 9 1 v ks.length ((ks.mergeSort leT).map sV) ∧ Below W.heap.size W W'
theorem keys119_calls (mb : Option Nat) (W : World) : Calls Tryz.prog 119 #[.map mb] W fun e w' => e = .returned (.func (.func 156) #[] #[.pointer (some ⟨W.heap.size, 0, none⟩)]) ∧ w' = W.alloc (.cells #[.map mb] 96) :=
  callsIn_wide.1 (AnyZ.keys_in Tryz.keys119 Fence.wide 5 trivial rfl mb W)
theorem sorted119_calls {V : Type} {W : World} {b : Nat} {vf : V → Value} {l : List (Tx × V)} (h : MapAt W b vf l) (hn : (l.map (·.1)).Nodup) (hk : ∀ x ∈ l, x.1.length ≤ 100000) (hsz : l.length ≤ 1000) :
    Calls Tryz.prog 118 #[.func (.func 156) #[] #[.pointer (some ⟨W.heap.size, 0, none⟩)]] (W.alloc (.cells #[.map (some b)] 96)) fun e w' => SortedP (W.alloc (.cells #[.map (some b)] 96)) (l.map (·.1)) e w' := by
  obtain ⟨D, hown, hp, hs⟩ := own_map h hn hk hsz
  have hbl := hown.lt
  have hseq : SeqGives Fence.wide 2 Tryz.prog 156 #[.pointer (some ⟨W.heap.size, 0, none⟩)] encStr (fun ss => ss.Perm (strKeys D)) (Maps.size D) (W.alloc (.cells #[.map (some b)] 96)) :=
    AnyZ.keys_gives (ρ := Tryz.keys119_ren) { Tryz.keys119 with } Fence.wide _ trivial rfl (by omega) W.heap.size b l.length D _ (by simp) (by simp) (by
      obtain ⟨es, clock, hb, Ft, hs, hD⟩ := hown
      exact ⟨es, clock, (Below.heap_alloc _ _ b hbl).trans hb, Ft, hs, hD⟩)
  refine (callsIn_wide.1 (AnyZ.sorted_in Tryz.sorted118 Fence.wide 5 trivial trivial trivial trivial rfl (by omega) (sorts118 _) (enters_of Tryz.func44 (by kernel_rfl) rfl) 156 #[.pointer (some ⟨W.heap.size, 0, none⟩)] trivial (enters_of Tryz.func156 (by kernel_rfl) rfl) _ _ (by rw [hs]; unfold maxLen; omega) (by rw [hs]; omega) _ hseq)).mono ?_
  rintro e w' ⟨v, ss, rfl, hS, hrow, -, hb⟩
  have hpp := hS.trans hp
  refine ⟨v, rfl, ?_, hb⟩
  have e1 : ss.mergeSort (fun x y => decide (x ≤ y)) = (l.map (·.1)).mergeSort leT := mergeSort_of_perm hpp
  rw [e1, hpp.length_eq] at hrow
  exact hrow
theorem keys120_calls (mb : Option Nat) (W : World) : Calls Tryz.prog 120 #[.map mb] W fun e w' => e = .returned (.func (.func 157) #[] #[.pointer (some ⟨W.heap.size, 0, none⟩)]) ∧ w' = W.alloc (.cells #[.map mb] 95) :=
  callsIn_wide.1 (AnyZ.keys_in Tryz.keys120 Fence.wide 5 trivial rfl mb W)
theorem sorted120_calls {V : Type} {W : World} {b : Nat} {vf : V → Value} {l : List (Tx × V)} (h : MapAt W b vf l) (hn : (l.map (·.1)).Nodup) (hk : ∀ x ∈ l, x.1.length ≤ 100000) (hsz : l.length ≤ 1000) :
    Calls Tryz.prog 118 #[.func (.func 157) #[] #[.pointer (some ⟨W.heap.size, 0, none⟩)]] (W.alloc (.cells #[.map (some b)] 95)) fun e w' => SortedP (W.alloc (.cells #[.map (some b)] 95)) (l.map (·.1)) e w' := by
  obtain ⟨D, hown, hp, hs⟩ := own_map h hn hk hsz
  have hbl := hown.lt
  have hseq : SeqGives Fence.wide 2 Tryz.prog 157 #[.pointer (some ⟨W.heap.size, 0, none⟩)] encStr (fun ss => ss.Perm (strKeys D)) (Maps.size D) (W.alloc (.cells #[.map (some b)] 95)) :=
    AnyZ.keys_gives (ρ := Tryz.keys120_ren) { Tryz.keys120 with } Fence.wide _ trivial rfl (by omega) W.heap.size b l.length D _ (by simp) (by simp) (by
      obtain ⟨es, clock, hb, Ft, hs, hD⟩ := hown
      exact ⟨es, clock, (Below.heap_alloc _ _ b hbl).trans hb, Ft, hs, hD⟩)
  refine (callsIn_wide.1 (AnyZ.sorted_in Tryz.sorted118 Fence.wide 5 trivial trivial trivial trivial rfl (by omega) (sorts118 _) (enters_of Tryz.func44 (by kernel_rfl) rfl) 157 #[.pointer (some ⟨W.heap.size, 0, none⟩)] trivial (enters_of Tryz.func157 (by kernel_rfl) rfl) _ _ (by rw [hs]; unfold maxLen; omega) (by rw [hs]; omega) _ hseq)).mono ?_
  rintro e w' ⟨v, ss, rfl, hS, hrow, -, hb⟩
  have hpp := hS.trans hp
  refine ⟨v, rfl, ?_, hb⟩
  have e1 : ss.mergeSort (fun x y => decide (x ≤ y)) = (l.map (·.1)).mergeSort leT := mergeSort_of_perm hpp
  rw [e1, hpp.length_eq] at hrow
  exact hrow
theorem keys127_calls (mb : Option Nat) (W : World) : Calls Tryz.prog 127 #[.map mb] W fun e w' => e = .returned (.func (.func 163) #[] #[.pointer (some ⟨W.heap.size, 0, none⟩)]) ∧ w' = W.alloc (.cells #[.map mb] 139) :=
  callsIn_wide.1 (AnyZ.keys_in Tryz.keys127 Fence.wide 5 trivial rfl mb W)
theorem sorted127_calls {V : Type} {W : World} {b : Nat} {vf : V → Value} {l : List (Tx × V)} (h : MapAt W b vf l) (hn : (l.map (·.1)).Nodup) (hk : ∀ x ∈ l, x.1.length ≤ 100000) (hsz : l.length ≤ 1000) :
    Calls Tryz.prog 118 #[.func (.func 163) #[] #[.pointer (some ⟨W.heap.size, 0, none⟩)]] (W.alloc (.cells #[.map (some b)] 139)) fun e w' => SortedP (W.alloc (.cells #[.map (some b)] 139)) (l.map (·.1)) e w' := by
  obtain ⟨D, hown, hp, hs⟩ := own_map h hn hk hsz
  have hbl := hown.lt
  have hseq : SeqGives Fence.wide 2 Tryz.prog 163 #[.pointer (some ⟨W.heap.size, 0, none⟩)] encStr (fun ss => ss.Perm (strKeys D)) (Maps.size D) (W.alloc (.cells #[.map (some b)] 139)) :=
    AnyZ.keys_gives (ρ := Tryz.keys127_ren) { Tryz.keys127 with } Fence.wide _ trivial rfl (by omega) W.heap.size b l.length D _ (by simp) (by simp) (by
      obtain ⟨es, clock, hb, Ft, hs, hD⟩ := hown
      exact ⟨es, clock, (Below.heap_alloc _ _ b hbl).trans hb, Ft, hs, hD⟩)
  refine (callsIn_wide.1 (AnyZ.sorted_in Tryz.sorted118 Fence.wide 5 trivial trivial trivial trivial rfl (by omega) (sorts118 _) (enters_of Tryz.func44 (by kernel_rfl) rfl) 163 #[.pointer (some ⟨W.heap.size, 0, none⟩)] trivial (enters_of Tryz.func163 (by kernel_rfl) rfl) _ _ (by rw [hs]; unfold maxLen; omega) (by rw [hs]; omega) _ hseq)).mono ?_
  rintro e w' ⟨v, ss, rfl, hS, hrow, -, hb⟩
  have hpp := hS.trans hp
  refine ⟨v, rfl, ?_, hb⟩
  have e1 : ss.mergeSort (fun x y => decide (x ≤ y)) = (l.map (·.1)).mergeSort leT := mergeSort_of_perm hpp
  rw [e1, hpp.length_eq] at hrow
  exact hrow
end Go.Proofs.YtjeadhfponlnnaaGreatDoor

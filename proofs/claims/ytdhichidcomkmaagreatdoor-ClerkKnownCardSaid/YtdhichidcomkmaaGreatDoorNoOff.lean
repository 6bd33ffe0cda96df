/-
  Offices that are none.
  Conditions: none; lemmas.
-/
import Derived.Test.YtdhichidcomkmaaGreatDoorWorks15
set_option linter.unusedSimpArgs false
set_option linter.unusedVariables false
namespace Go.Proofs.YtdhichidcomkmaaGreatDoor
open Go.RowKit Go.Pur Go.Clerk
open Go.Abs
set_option maxRecDepth 1000000
set_option maxHeartbeats 8000000
def NoOff (w : World) (p : Value) : Prop := p = .pointer none ∨ ∃ o, p = ptrV o ∧ o < w.heap.size ∧ w.cell? ⟨o, 0, none⟩ = some (.pointer none)
theorem NoOff.below {w w' : World} {p : Value} (h : NoOff w p) (hb : Below w.heap.size w w') : NoOff w' p := by
 rcases h with rfl | ⟨o, rfl, h1, h2⟩
 ·exact .inl rfl
 ·exact .inr ⟨o, rfl, Nat.lt_of_lt_of_le h1 hb.size, (hb.cell (p := ⟨o, 0, none⟩) h1).trans h2⟩
theorem no49 (w : World) (p : Value) (h : NoOff w p) : Calls Tryz.prog 49 #[p] w fun e w' => e = .returned (.bool true) ∧ w' = w := by
 have mixed : Tryz.prog.follows .mixedOrders = true := by kernel_rfl
 rcases h with rfl | ⟨o, rfl, h1, h2⟩
 ·go_enter Tryz.func49, Tryz.ntmps49
  go_wp2
  all_goals go_ret
  all_goals exact ⟨rfl, rfl⟩
 ·go_enter Tryz.func49, Tryz.ntmps49
  go_wp2
  all_goals go_ret
  all_goals exact ⟨rfl, rfl⟩
theorem no20 (w : World) (p : Value) (x : Tx) (h : NoOff w p) : Calls Tryz.prog 20 #[p, sV x] w fun e w' => e = .returned (.tuple #[.string ⟨#[]⟩, .int .i64 11]) ∧ w' = w := by
 have mixed : Tryz.prog.follows .mixedOrders = true := by kernel_rfl
 have HI := hidC (no49 w p h)
 clear h
 go_enter Tryz.func20, Tryz.ntmps20
 go_wp2_with (go_at_call 49; refine HI.out.mono ?_; rintro e wa ⟨rfl, hwa⟩; subst wa)
 go_ret2
 exact ⟨rfl, rfl⟩
theorem no22 (w : World) (p : Value) (x : Tx) (h : NoOff w p) : Calls Tryz.prog 22 #[p, sV x] w fun e w' => e = .returned (.tuple #[.slice none 0 0, .int .i64 11]) ∧ w' = w := by
 have mixed : Tryz.prog.follows .mixedOrders = true := by kernel_rfl
 have HI := hidC (no49 w p h)
 clear h
 go_enter Tryz.func22, Tryz.ntmps22
 go_wp2_with (go_at_call 49; refine HI.out.mono ?_; rintro e wa ⟨rfl, hwa⟩; subst wa)
 go_ret2
 exact ⟨rfl, rfl⟩
theorem no37 (w : World) (p : Value) (h : NoOff w p) : Calls Tryz.prog 37 #[p] w fun e w' => e = .returned (.pointer none) ∧ w' = w := by
 have mixed : Tryz.prog.follows .mixedOrders = true := by kernel_rfl
 have HI := hidC (no49 w p h)
 clear h
 go_enter Tryz.func37, Tryz.ntmps37
 go_wp2_with (go_at_call 49; refine HI.out.mono ?_; rintro e wa ⟨rfl, hwa⟩; subst wa)
 go_ret
 exact ⟨rfl, rfl⟩
theorem no30 (w : World) (p : Value) (h : NoOff w p) : Calls Tryz.prog 30 #[p] w fun e w' => e = .returned (.slice none 0 0) ∧ w' = w := by
 have mixed : Tryz.prog.follows .mixedOrders = true := by kernel_rfl
 have HI := hidC (no49 w p h)
 clear h
 go_enter Tryz.func30, Tryz.ntmps30
 go_wp2_with (go_at_call 49; refine HI.out.mono ?_; rintro e wa ⟨rfl, hwa⟩; subst wa)
 go_ret
 exact ⟨rfl, rfl⟩
theorem no29 (w : World) (p : Value) (h : NoOff w p) : Calls Tryz.prog 29 #[p] w fun e w' => e = .returned (.slice none 0 0) ∧ w' = w := by
 have mixed : Tryz.prog.follows .mixedOrders = true := by kernel_rfl
 have HI := hidC (no49 w p h)
 clear h
 go_enter Tryz.func29, Tryz.ntmps29
 go_wp2_with (go_at_call 49; refine HI.out.mono ?_; rintro e wa ⟨rfl, hwa⟩; subst wa)
 go_ret
 exact ⟨rfl, rfl⟩
theorem no38 (w : World) (p : Value) (h : NoOff w p) : Calls Tryz.prog 38 #[p] w fun e w' => e = .returned (.slice none 0 0) ∧ w' = w := by
 have mixed : Tryz.prog.follows .mixedOrders = true := by kernel_rfl
 have HI := hidC (no49 w p h)
 clear h
 go_enter Tryz.func38, Tryz.ntmps38
 go_wp2_with (go_at_call 49; refine HI.out.mono ?_; rintro e wa ⟨rfl, hwa⟩; subst wa)
 go_ret
 exact ⟨rfl, rfl⟩
theorem no28 (w : World) (p : Value) (h : NoOff w p) : Calls Tryz.prog 28 #[p] w fun e w' => e = .returned (.slice none 0 0) ∧ w' = w := by
 have mixed : Tryz.prog.follows .mixedOrders = true := by kernel_rfl
 have HI := hidC (no49 w p h)
 clear h
 go_enter Tryz.func28, Tryz.ntmps28
 go_wp2_with (go_at_call 49; refine HI.out.mono ?_; rintro e wa ⟨rfl, hwa⟩; subst wa)
 go_ret
 exact ⟨rfl, rfl⟩
theorem no39 (w : World) (p : Value) (h : NoOff w p) : Calls Tryz.prog 39 #[p] w fun e w' => e = .returned (.slice none 0 0) ∧ w' = w := by
 have mixed : Tryz.prog.follows .mixedOrders = true := by kernel_rfl
 have HI := hidC (no49 w p h)
 clear h
 go_enter Tryz.func39, Tryz.ntmps39
 go_wp2_with (go_at_call 49; refine HI.out.mono ?_; rintro e wa ⟨rfl, hwa⟩; subst wa)
 go_ret
 exact ⟨rfl, rfl⟩
theorem no40 (w : World) (p : Value) (h : NoOff w p) : Calls Tryz.prog 40 #[p] w fun e w' => e = .returned (.slice none 0 0) ∧ w' = w := by
 have mixed : Tryz.prog.follows .mixedOrders = true := by kernel_rfl
 have HI := hidC (no49 w p h)
 clear h
 go_enter Tryz.func40, Tryz.ntmps40
 go_wp2_with (go_at_call 49; refine HI.out.mono ?_; rintro e wa ⟨rfl, hwa⟩; subst wa)
 go_ret
 exact ⟨rfl, rfl⟩
theorem no33 (w : World) (p : Value) (h : NoOff w p) : Calls Tryz.prog 33 #[p] w fun e w' => e = .returned (.string ⟨#[]⟩) ∧ w' = w := by
 have mixed : Tryz.prog.follows .mixedOrders = true := by kernel_rfl
 have HI := hidC (no49 w p h)
 clear h
 go_enter Tryz.func33, Tryz.ntmps33
 go_wp2_with (go_at_call 49; refine HI.out.mono ?_; rintro e wa ⟨rfl, hwa⟩; subst wa)
 go_ret
 exact ⟨rfl, rfl⟩
theorem no18a (w : World) (line : Tx) (h : NoOff w (.pointer none)) : Calls Tryz.prog 18 #[.pointer none, sV line] w fun e w' => e = .returned (.int .i64 11) ∧ Below w.heap.size w w' := by
 have mixed : Tryz.prog.follows .mixedOrders = true := by kernel_rfl
 have hmf : ∀ (fn : Fn) (first cap : Array Value) (w : World), (Instr.makeFunc fn first cap).run Tryz.prog w = .ok (.func fn first cap) w := fun _ _ _ _ => rfl
 obtain ⟨W2, hW2⟩ : ∃ x, (w.alloc (.cells #[.pointer none] 25)).alloc (.cells #[.int .i64 0] 29) = x := ⟨_, rfl⟩
 have hB2 : Below w.heap.size w W2 := by rw [← hW2]; exact ((Below.refl _ _).alloc (Nat.le_refl _) _).alloc (by simp) _
 have hs1 : (w.alloc (.cells #[.pointer none] 25)).heap.size = w.heap.size + 1 := by simp
 have t2 : W2.heap[w.heap.size]? = some (.cells #[.pointer none] 25 (0, 0)) := by
  rw [← hW2]
  exact (Below.heap_alloc _ _ _ (by rw [hs1]; omega)).trans (heap_alloc_new _ _)
 have t4 : W2.heap[w.heap.size + 1]? = some (.cells #[nV 0] 29 (0, 0)) := by
  rw [← hW2]
  have := heap_alloc_new (w.alloc (.cells #[.pointer none] 25)) (.cells #[.int .i64 0] 29)
  rw [hs1] at this
  exact this
 obtain ⟨c2, z2⟩ := one_cell t2
 obtain ⟨c4, z4⟩ := one_cell t4
 have HI2 := hidC (no49 W2 _ (h.below hB2))
 have HB2 := hidC hB2
 clear h hB2 t2 t4
 go_enter_defers Tryz.func18, Tryz.ntmps18
 go_wp2_with (go_at_call 49; refine HI2.out.mono ?_; rintro e wa ⟨rfl, hwa⟩; subst wa)
 refine ⟨_, by simp [results, Tryz.results18, go_sem, c4, z4]; rfl, ?_⟩
 exact ⟨rfl, HB2.out.setCell (by show w.heap.size ≤ w.heap.size + 1; omega) (p := ⟨w.heap.size + 1, 0, none⟩) _⟩
theorem no18b (w : World) (o : Nat) (line : Tx) (h : NoOff w (ptrV o)) : Calls Tryz.prog 18 #[ptrV o, sV line] w fun e w' => e = .returned (.int .i64 11) ∧ Below w.heap.size w w' := by
 have mixed : Tryz.prog.follows .mixedOrders = true := by kernel_rfl
 have hmf : ∀ (fn : Fn) (first cap : Array Value) (w : World), (Instr.makeFunc fn first cap).run Tryz.prog w = .ok (.func fn first cap) w := fun _ _ _ _ => rfl
 obtain ⟨W2, hW2⟩ : ∃ x, (w.alloc (.cells #[ptrV o] 25)).alloc (.cells #[.int .i64 0] 29) = x := ⟨_, rfl⟩
 have hB2 : Below w.heap.size w W2 := by rw [← hW2]; exact ((Below.refl _ _).alloc (Nat.le_refl _) _).alloc (by simp) _
 have hs1 : (w.alloc (.cells #[ptrV o] 25)).heap.size = w.heap.size + 1 := by simp
 have t2 : W2.heap[w.heap.size]? = some (.cells #[ptrV o] 25 (0, 0)) := by
  rw [← hW2]
  exact (Below.heap_alloc _ _ _ (by rw [hs1]; omega)).trans (heap_alloc_new _ _)
 have t4 : W2.heap[w.heap.size + 1]? = some (.cells #[nV 0] 29 (0, 0)) := by
  rw [← hW2]
  have := heap_alloc_new (w.alloc (.cells #[ptrV o] 25)) (.cells #[.int .i64 0] 29)
  rw [hs1] at this
  exact this
 obtain ⟨c2, z2⟩ := one_cell t2
 obtain ⟨c4, z4⟩ := one_cell t4
 have HI2 := hidC (no49 W2 _ (h.below hB2))
 have HB2 := hidC hB2
 clear h hB2 t2 t4
 go_enter_defers Tryz.func18, Tryz.ntmps18
 go_wp2_with (go_at_call 49; refine HI2.out.mono ?_; rintro e wa ⟨rfl, hwa⟩; subst wa)
 refine ⟨_, by simp [results, Tryz.results18, go_sem, c4, z4]; rfl, ?_⟩
 exact ⟨rfl, HB2.out.setCell (by show w.heap.size ≤ w.heap.size + 1; omega) (p := ⟨w.heap.size + 1, 0, none⟩) _⟩
theorem no18 (w : World) (p : Value) (line : Tx) (h : NoOff w p) : Calls Tryz.prog 18 #[p, sV line] w fun e w' => e = .returned (.int .i64 11) ∧ Below w.heap.size w w' := by
 rcases h with rfl | ⟨o, rfl, h1, h2⟩
 ·exact no18a w line (.inl rfl)
 ·exact no18b w o line (.inr ⟨o, rfl, h1, h2⟩)
end Go.Proofs.YtdhichidcomkmaaGreatDoor

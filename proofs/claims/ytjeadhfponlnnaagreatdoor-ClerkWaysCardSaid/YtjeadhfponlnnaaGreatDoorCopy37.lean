/-
  An office is copied.
  Conditions: none; lemmas.
-/
import Derived.Test.YtjeadhfponlnnaaGreatDoorNew16
import Derived.Test.YtjeadhfponlnnaaGreatDoorTellAll
set_option linter.unusedSimpArgs false
set_option linter.unusedVariables false
namespace Go.Proofs.YtjeadhfponlnnaaGreatDoor
open Go.RowKit Go.Pur Go.Clerk
open Go.Abs
set_option maxRecDepth 1000000
set_option maxHeartbeats 8000000
theorem oneCell_desks {W : World} {xs : List Desk} {cs : List Value} (h : Desks W xs cs) : ∀ u ∈ cs, u.oneCell' = true := by
 induction h with
 | nil => intro u hu; cases hu
 | cons p d xs cs h1 _ ih =>
  intro u hu
  rcases List.mem_cons.1 hu with rfl | hu
  ·rfl
  ·exact ih u hu
theorem copy_calls (o : Nat) (S : Off) (w : World) (hO : OffAt w o S) (hl : S.lines.length ≤ 1000) : Calls Tryz.prog 37 #[ptrV o] w fun e w' => NewP w S e w' := by
 have mixed : Tryz.prog.follows .mixedOrders = true := by kernel_rfl
 have hol := hO.lt
 obtain ⟨now, pv, lv, ps, h1, h2, h3, h4, h5, h6⟩ := hO
 obtain ⟨c0, c1, c2, -⟩ := off_cells h1
 have HI := hidC (invalid_calls o now w c0)
 have HC1 : Hid (∀ w', Below w.heap.size w w' → Calls Tryz.prog 83 #[pv] w' fun e w'' => ClP w' 56 1 S.past.length ps e w'') := hidC fun w' h => clone83 w' 0 pv S.past.length ps (row_below h3 h) (oneCell_desks h4) (by omega)
 have HC2 : Hid (∀ w', Below w.heap.size w w' → Calls Tryz.prog 72 #[lv] w' fun e w'' => ClP w' 9 1 S.lines.length (S.lines.map sV) e w'') := hidC fun w' h => clone72 w' lv S.lines (row_below h5 h) hl
 have HK : Hid (∀ w', Below w.heap.size w w' → w'.cell? ⟨o, 0, none⟩ = some (ptrV now) ∧ w'.cell? ⟨o, 1, none⟩ = some pv ∧ w'.cell? ⟨o, 2, none⟩ = some lv) := hidC fun w' h => ⟨(h.cell (p := ⟨o, 0, none⟩) hol).trans c0, (h.cell (p := ⟨o, 1, none⟩) hol).trans c1, (h.cell (p := ⟨o, 2, none⟩) hol).trans c2⟩
 have H2 := hidC h2
 have H4 := hidC h4
 have H6 := hidC h6
 clear h1 h2 h3 h4 h5 h6 c0 c1 c2
 go_enter Tryz.func37, Tryz.ntmps37
 go_upto_region 2 with (go_at_call 49; refine HI.out.mono ?_; rintro e wa ⟨rfl, hwa⟩; subst wa)
 go_region_held3 (fun w' => w'.cell? ⟨o, 0, none⟩ = some (ptrV now) ∧ w'.cell? ⟨o, 1, none⟩ = some pv ∧ w'.cell? ⟨o, 2, none⟩ = some lv)
  (first | exact HK.out _ (Below.refl _ _).drew | exact HK.out _ hz1 | exact HK.out _ hz2 | go_keep)
  (first
   | (go_at_call 72; refine (HC2.out _ hz1).mono ?_; rintro e w2 ⟨v2, rfl, hr2, hb2⟩; obtain ⟨a2, k2, rfl⟩ := row_slice hr2; have hz2 : Below w.heap.size w w2 := hz1.trans (hb2.mono hz1.size))
   | (go_at_call 83; refine (HC1.out _ (Below.refl _ _).drew).mono ?_; rintro e w1 ⟨v1, rfl, hr1, hb1⟩; obtain ⟨a1, k1, rfl⟩ := row_slice hr1; have hz1 : Below w.heap.size w w1 := (Below.refl _ _).drew.trans hb1))
 all_goals go_wp2
 all_goals go_ret
 have q4 : Below w2.heap.size w2 (w2.alloc (.cells #[ptrV now, .slice a1 S.past.length k1, .slice a2 S.lines.length k2] 59)) := (Below.refl _ _).alloc (Nat.le_refl _) _
 have hall : Below w.heap.size w (w2.alloc (.cells #[ptrV now, .slice a1 S.past.length k1, .slice a2 S.lines.length k2] 59)) := hz2.trans (q4.mono hz2.size)
 refine ⟨w2.heap.size, rfl, ⟨now, .slice a1 S.past.length k1, .slice a2 S.lines.length k2, ps, heap_alloc_new _ _, H2.out.below hall, ?_, ?_, ?_, H6.out⟩, hz2.size, hall⟩
 ·exact row_mono (row_below (row_below hr1 hb2) q4) (Nat.zero_le _)
 ·exact H4.out.but (X := fun _ => False) (But.of hall) (Nat.le_refl _) (fun _ h => h.elim)
 ·exact row_mono (row_below hr2 q4) (Nat.zero_le _)
end Go.Proofs.YtjeadhfponlnnaaGreatDoor

/-
  New, Way, Lines.
  Conditions: none; lemmas.
-/
import Derived.Test.YtdhichidcomkmaaGreatDoorFind20
set_option linter.unusedSimpArgs false
set_option linter.unusedVariables false
namespace Go.Proofs.YtdhichidcomkmaaGreatDoor
open Go.RowKit Go.Pur Go.Clerk
open Go.Abs
set_option maxRecDepth 1000000
set_option maxHeartbeats 8000000
def NewP (w : World) (S : Off) (e : Ending) (w' : World) : Prop := ∃ o, e = .returned (ptrV o) ∧ OffAt w' o S ∧ w.heap.size ≤ o ∧ Below w.heap.size w w'
theorem new_end {w w1 : World} (hb : Below w.heap.size w w1) {me ma : Nat} (h1 : w1.heap[me]? = some (.map #[] 0)) (h2 : w1.heap[ma]? = some (.map #[] 0)) (hne : me ≠ ma) (hs : w.heap.size ≤ w1.heap.size) :
  NewP w Off.none (.returned (ptrV (w1.heap.size + 1))) ((w1.alloc (.cells #[.map (some me), .map (some ma), .slice none 0 0, .int .u8 0] 98)).alloc (.cells #[ptrV w1.heap.size, .slice none 0 0, .slice none 0 0] 59)) := by
 have l1 := (Array.getElem?_eq_some_iff.1 h1).1
 have l2 := (Array.getElem?_eq_some_iff.1 h2).1
 have e : (w1.alloc (.cells #[.map (some me), .map (some ma), .slice none 0 0, .int .u8 0] 98)).heap.size = w1.heap.size + 1 := by simp
 have hm : ∀ {k : Nat}, k < w1.heap.size → ((w1.alloc (.cells #[.map (some me), .map (some ma), .slice none 0 0, .int .u8 0] 98)).alloc (.cells #[ptrV w1.heap.size, .slice none 0 0, .slice none 0 0] 59)).heap[k]? = w1.heap[k]? := fun {k} hk => by
  rw [heap_alloc_old _ _ (by rw [e]; omega), heap_alloc_old _ _ hk]
 refine ⟨_, rfl, ⟨w1.heap.size, _, _, [], ?_, ⟨me, ma, .slice none 0 0, ?_, Nat.zero_le _, Nat.zero_le _, Nat.zero_le _, hne, ⟨[], 0, (hm l1).trans h1, rfl, fun s h => (by cases h), List.nodup_nil⟩, ⟨[], 0, (hm l2).trans h2, rfl, fun s h => (by cases h), List.nodup_nil⟩, [], .nil, World.ownsRow_nil _ _ _ _⟩, World.ownsRow_nil _ _ _ _, .nil, World.ownsRow_nil _ _ _ _, rfl⟩, by omega, (hb.alloc hs _).alloc (by simp; omega) _⟩
 ·have := heap_alloc_new (w1.alloc (.cells #[.map (some me), .map (some ma), .slice none 0 0, .int .u8 0] 98)) (.cells #[ptrV w1.heap.size, .slice none 0 0, .slice none 0 0] 59)
  rw [e] at this
  exact this
 ·rw [heap_alloc_old _ _ (by rw [e]; omega)]
  exact heap_alloc_new _ _
theorem new_calls (w : World) : Calls Tryz.prog 16 #[] w fun e w' => NewP w Off.none e w' := by
 have mixed : Tryz.prog.follows .mixedOrders = true := by kernel_rfl
 have hm1 : ∀ w, (Instr.makeMap 95 none).run Tryz.prog w = .ok (.map (some w.heap.size)) (w.alloc (.map #[] 0)) := fun _ => rfl
 have hm2 : ∀ w, (Instr.makeMap 96 none).run Tryz.prog w = .ok (.map (some w.heap.size)) (w.alloc (.map #[] 0)) := fun _ => rfl
 have hN : NewP w Off.none (.returned (ptrV (((w.alloc (.map #[] 0)).alloc (.map #[] 0)).heap.size + 1))) _ := new_end (((Below.refl _ w).alloc (Nat.le_refl _) (.map #[] 0)).alloc (by simp) (.map #[] 0)) (me := w.heap.size) (ma := w.heap.size + 1) (by rw [heap_alloc_old _ _ (by simp)]; exact heap_alloc_new _ _) (by have := heap_alloc_new (w.alloc (.map #[] 0)) (.map #[] 0); simpa using this) (by omega) (by simp; omega)
 have hs : ((w.alloc (.map #[] 0)).alloc (.map #[] 0)).heap.size = w.heap.size + 2 := by simp
 rw [hs] at hN
 have HN := hidC hN
 clear hN
 go_enter Tryz.func16, Tryz.ntmps16
 go_wp2_with fail
 go_ret
 exact HN.out
theorem way22_calls (o : Nat) (S : Off) (wd : Tx) (w : World) (hO : OffAt w o S) (hl : S.now.ents.length ≤ 1000) : Calls Tryz.prog 22 #[ptrV o, sV wd] w fun e w' => ∃ v, e = .returned (.tuple #[v, nV (S.now.wayOf wd).2]) ∧ TextsAt w' v (S.now.wayOf wd).1 ∧ Below w.heap.size w w' := by
 have mixed : Tryz.prog.follows .mixedOrders = true := by kernel_rfl
 have hol := hO.lt
 obtain ⟨now, pv, lv, ps, h1, hd, -, -, -, -⟩ := hO
 have Hd := hidC hd
 obtain ⟨me, ma, vv, h2, -, -, -, -, h6, -, -⟩ := hd
 obtain ⟨d, hde⟩ : ∃ d, S.now = d := ⟨_, rfl⟩
 rw [hde] at h2 h6 Hd hl ⊢
 clear hde
 have hnl : now < w.heap.size := (Array.getElem?_eq_some_iff.1 h2).1
 have hme : me < w.heap.size := h6.lt
 have c0 := (off_cells h1).1
 have a1 := (desk_cells h2).1
 have k1 := lookE h6 wd
 have HI := hidC (invalid_calls o now w c0)
 clear h1 h2 h6
 obtain ⟨a0, ha0⟩ : ∃ a0, (getE wd d.ents).getD ent0 = a0 := ⟨_, rfl⟩
 obtain ⟨b0, hb0⟩ : ∃ b0, (getE wd d.ents).isSome = b0 := ⟨_, rfl⟩
 rw [ha0, hb0] at k1
 have Hb0 := hidC hb0
 have Ha0 := hidC ha0
 clear ha0 hb0
 obtain ⟨w1, hw1⟩ : ∃ x, w.alloc (.cells #[sV a0.word, sV a0.form, sV a0.see, sV a0.writer, nV a0.asked, nV a0.came, nV a0.vol] 79) = x := ⟨_, rfl⟩
 have hB1 : Below w.heap.size w w1 := by rw [← hw1]; exact (Below.refl _ _).alloc (Nat.le_refl _) _
 have HB1 := hidC hB1
 have c0' := (hB1.cell (p := ⟨o, 0, none⟩) hol).trans c0
 have HW := hidC (way_calls now wd d w1 0 (Hd.out.below hB1) hl)
 clear hB1
 cases b0 with
 | true =>
  have hR : d.wayOf wd = (d.way wd, 0) := by
   unfold Desk.wayOf
   cases hg : getE wd d.ents with
   | none => rw [hg] at Hb0; exact absurd Hb0.out (by simp)
   | some a => rfl
  have HR := hidC hR
  clear hR
  go_enter Tryz.func22, Tryz.ntmps22
  go_wp2_with (first | (go_at_call 49; refine HI.out.mono ?_; rintro e wa ⟨rfl, hwa⟩; subst wa) | (go_at_call 59; refine HW.out.mono ?_; rintro e wb ⟨v, rfl, hv, hbb⟩; have Hv := hidC hv; have Hbb := hidC hbb; clear hv hbb))
  go_ret2
  rw [HR.out]
  exact ⟨_, rfl, Hv.out, HB1.out.trans (Hbb.out.mono HB1.out.size)⟩
 | false =>
  have hR : d.wayOf wd = ([], 2) := by
   unfold Desk.wayOf
   cases hg : getE wd d.ents with
   | none => rfl
   | some a => rw [hg] at Hb0; exact absurd Hb0.out (by simp)
  have HR := hidC hR
  clear hR
  go_enter Tryz.func22, Tryz.ntmps22
  go_wp2_with (go_at_call 49; refine HI.out.mono ?_; rintro e wa ⟨rfl, hwa⟩; subst wa)
  go_ret2
  rw [HR.out]
  exact ⟨_, rfl, World.ownsRow_nil _ _ _ _, HB1.out⟩
theorem lines_calls (o : Nat) (S : Off) (w : World) (hO : OffAt w o S) (hl : S.lines.length ≤ 1000) : Calls Tryz.prog 30 #[ptrV o] w fun e w' => TxP w S.lines e w' := by
 have mixed : Tryz.prog.follows .mixedOrders = true := by kernel_rfl
 have hol := hO.lt
 obtain ⟨now, pv, lv, ps, h1, -, -, -, h5, -⟩ := hO
 obtain ⟨c0, -, c2, -⟩ := off_cells h1
 have HI := hidC (invalid_calls o now w c0)
 have HC := hidC (clone72 w lv S.lines h5 hl)
 go_enter Tryz.func30, Tryz.ntmps30
 go_wp2_with (first | (go_at_call 49; refine HI.out.mono ?_; rintro e wa ⟨rfl, hwa⟩; subst wa) | (go_at_call 72; refine HC.out.mono ?_; rintro e wb ⟨v, rfl, hv, hbb⟩))
 go_ret
 exact ⟨_, rfl, textsAt_of hv, hbb⟩
end Go.Proofs.YtdhichidcomkmaaGreatDoor

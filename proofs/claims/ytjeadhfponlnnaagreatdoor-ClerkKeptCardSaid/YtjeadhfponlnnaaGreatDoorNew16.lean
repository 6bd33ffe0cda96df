/-
  Find: the headword of a form; Way.
  New, Way, Lines.
  Conditions: none; definitions and lemmas.
-/
import Derived.Test.YtjeadhfponlnnaaGreatDoorTell1
import Derived.Test.YtjeadhfponlnnaaGreatDoorKeep14
import Derived.Test.YtjeadhfponlnnaaGreatDoorWord237
set_option linter.unusedSimpArgs false
set_option linter.unusedVariables false
namespace Go.Proofs.YtjeadhfponlnnaaGreatDoor
open Go.RowKit Go.Pur Go.Clerk
open Go.Abs
set_option maxRecDepth 1000000
set_option maxHeartbeats 8000000
def isF (form : Tx) (e : Ent) : Bool := !form.isEmpty && decide (e.form = form)
theorem find_yes {d : Desk} {form k : Tx} {e : Ent} (hD : DeskOK d) (hg : getE form d.ents = none) (he : (k, e) ∈ entL d.ents) (hf : isF form e = true) : d.find form = (k, 0) := by
 obtain ⟨y, hy, e0⟩ := List.mem_map.1 he
 obtain ⟨e1, e2⟩ := Prod.mk.inj e0
 subst e2; subst e1
 clear e0
 unfold Desk.find
 rw [hg]
 obtain ⟨x, hx⟩ : ∃ x, d.ents.find? (isF form) = some x := by
  have : (d.ents.find? (isF form)).isSome = true := by rw [List.find?_isSome]; exact ⟨_, hy, hf⟩
  exact Option.isSome_iff_exists.1 this
 have hx' : d.ents.find? (fun e => !form.isEmpty && decide (e.form = form)) = some x := hx
 rw [hx']
 have h1 := List.mem_of_find?_eq_some hx
 have h2 := List.find?_some hx
 unfold isF at h2 hf
 simp only [Bool.and_eq_true, decide_eq_true_eq] at h2 hf
 have hne : x.form ≠ [] := fun e => by rw [← h2.2, e] at h2; exact absurd h2.1 (by decide)
 obtain ⟨_, o2⟩ := hD.own x h1 hne
 have hney : y.form ≠ [] := by rw [hf.2, ← h2.2]; exact hne
 obtain ⟨o3, _⟩ := hD.own y hy hney
 rw [hf.2, ← h2.2] at o3
 show (x.word, 0) = (y.word, 0)
 rw [o2 y hy o3]
theorem find_no {d : Desk} {form : Tx} (hg : getE form d.ents = none) (hf : d.ents.any (isF form) = false) : d.find form = ([], 2) := by
 unfold Desk.find
 rw [hg]
 have : d.ents.find? (fun e => !form.isEmpty && decide (e.form = form)) = none := by
  rw [List.find?_eq_none]
  intro x hx
  rw [List.any_eq_false] at hf
  exact hf x hx
 rw [this]
def RdV (w : World) (v : Value) (e : Ending) (w' : World) : Prop := e = .returned v ∧ Below w.heap.size w w'
theorem find_calls (o : Nat) (S : Off) (form : Tx) (w : World) (hO : OffAt w o S) (hD : DeskOK S.now) : Calls Tryz.prog 20 #[ptrV o, sV form] w fun e w' => RdV w (.tuple #[sV (S.now.find form).1, nV (S.now.find form).2]) e w' := by
 have mixed : Tryz.prog.follows .mixedOrders = true := by kernel_rfl
 have hol := hO.lt
 obtain ⟨now, pv, lv, ps, h1, hd, -, -, -, -⟩ := hO
 obtain ⟨me, ma, vv, h2, -, -, -, -, h6, -, -⟩ := hd
 obtain ⟨d, hde⟩ : ∃ d, S.now = d := ⟨_, rfl⟩
 rw [hde] at h2 h6 hD ⊢
 clear hde
 have hnl : now < w.heap.size := (Array.getElem?_eq_some_iff.1 h2).1
 have hme : me < w.heap.size := h6.lt
 have c0 := (off_cells h1).1
 have a1 := (desk_cells h2).1
 have k1 := lookE h6 form
 have HI := hidC (invalid_calls o now w c0)
 have H1 := hidC h1
 have H2 := hidC h2
 have H6 := hidC h6
 have HD := hidC hD
 clear h1 h2 h6
 obtain ⟨a0, ha0⟩ : ∃ a0, (getE form d.ents).getD ent0 = a0 := ⟨_, rfl⟩
 obtain ⟨b0, hb0⟩ : ∃ b0, (getE form d.ents).isSome = b0 := ⟨_, rfl⟩
 rw [ha0, hb0] at k1
 have Hb0 := hidC hb0
 have Ha0 := hidC ha0
 clear ha0 hb0 hD
 cases b0 with
 | true =>
  have hR : d.find form = (a0.word, 0) := by
   unfold Desk.find
   cases hg : getE form d.ents with
   | none => rw [hg] at Hb0; exact absurd Hb0.out (by simp)
   | some a => rw [hg] at Ha0; rw [← Ha0.out]; rfl
  have HR := hidC hR
  clear hR
  go_enter Tryz.func20, Tryz.ntmps20
  go_wp2_with (go_at_call 49; refine HI.out.mono ?_; rintro e wa ⟨rfl, hwa⟩; subst wa)
  go_ret2
  rw [HR.out]
  exact ⟨rfl, (Below.refl _ _).alloc (Nat.le_refl _) _⟩
 | false =>
  have hg : getE form d.ents = none := by
   cases hg : getE form d.ents with
   | none => rfl
   | some a => rw [hg] at Hb0; exact absurd Hb0.out (by simp)
  have Hg := hidC hg
  clear hg
  obtain ⟨w1, hw1⟩ : ∃ x, w.alloc (.cells #[sV a0.word, sV a0.form, sV a0.see, sV a0.writer, nV a0.asked, nV a0.came, nV a0.vol] 79) = x := ⟨_, rfl⟩
  have hB1 : Below w.heap.size w w1 := by rw [← hw1]; exact (Below.refl _ _).alloc (Nat.le_refl _) _
  have hs1 : w1.heap.size = w.heap.size + 1 := by rw [← hw1]; simp
  obtain ⟨ob, hrg, hit⟩ := range_start (P := Tryz.prog) (H6.out.below hB1 hme) Tryz.underlying95
  obtain ⟨w2, hw2⟩ : ∃ x, w1.alloc ob = x := ⟨_, rfl⟩
  have hB2 : Below w1.heap.size w1 w2 := by rw [← hw2]; exact (Below.refl _ _).alloc (Nat.le_refl _) _
  rw [hw2] at hrg hit
  rw [hs1] at hrg hit hB2
  have hC : CAny w2 (w.heap.size + 1) me d.ents (fun x => isF form x.2) (entL d.ents) w2 := ⟨hit, Below.refl _ _, rfl⟩
  have HC := hidC hC
  have HB1 := hidC hB1
  have HB2 := hidC hB2
  have c0' := (hB1.cell (p := ⟨o, 0, none⟩) hol).trans c0
  have a1' := (hB1.cell (p := ⟨now, 0, none⟩) hnl).trans a1
  clear hC hB1 hB2 hit hw2
  go_enter Tryz.func20, Tryz.ntmps20
  go_upto_region 6 with (go_at_call 49; refine HI.out.mono ?_; rintro e wa ⟨rfl, hwa⟩; subst wa)
  clear c0 a1 hw1
  go_wp2_with fail
  go_loopg [8, 9] (d.ents.length + 1) (fun gk s8 s9 wx => ∃ rest, CAny w2 (w.heap.size + 1) me d.ents (fun x => isF form x.2) rest wx ∧ (∀ x ∈ rest, x ∈ entL d.ents) ∧ rest.length < gk)
  case atStart => exact ⟨_, HC.out, fun x hx => hx, by simp [entL]⟩
  case round =>
   obtain ⟨rest, hC, hin, hgk⟩ := hrel
   obtain ⟨g', rfl⟩ : ∃ g', gk = g' + 1 := ⟨gk - 1, by omega⟩
   obtain ⟨q1, q2, q3⟩ := hC
   have hrm : w.heap.size + 1 ≠ me := by omega
   rcases next_step (P := Tryz.prog) q1 hrm 0 with ⟨rfl, hrun⟩ | ⟨k, ev, rest', W1, hpm, hrun, hit1, hT1, hent⟩
   ·have hany : d.ents.any (isF form) = false := by
     rw [← any_ents (f := isF form), q3]
     rfl
    have HR := hidC (find_no Hg.out hany)
    have hB6 : Below w.heap.size w wr := HB1.out.trans ((HB2.out.trans q2).mono (by omega))
    have HB6 := hidC hB6
    clear hB6 hany q1 q2 q3 hin
    go_wp2
    go_ret2
    rw [HR.out]
    exact ⟨rfl, HB6.out⟩
   ·have hlen : rest.length = rest'.length + 1 := by rw [hpm.length_eq]; rfl
    have hany : (entL d.ents).any (fun x => isF form x.2) = (isF form ev || rest'.any fun x => isF form x.2) := by
     rw [q3, any_perm hpm]
     rfl
    have hkm : (k, ev) ∈ entL d.ents := hin _ (hpm.mem_iff.2 List.mem_cons_self)
    have hin' : ∀ x ∈ rest', x ∈ entL d.ents := fun x hx => hin x (hpm.mem_iff.2 (List.mem_cons_of_mem _ hx))
    have hB5 : Below (w.heap.size + 1) w2 W1 := hT1.below q2 (Nat.le_refl _)
    have hr1 : w.heap.size + 1 < W1.heap.size := hit1.lt
    have hB6 : Below w.heap.size w W1 := HB1.out.trans ((HB2.out.trans hB5).mono (by omega))
    have Hit1 := hidC hit1
    have HB5 := hidC hB5
    have HB6 := hidC hB6
    have Hany := hidC hany
    have Hin := hidC hin'
    have Hkm := hidC hkm
    clear hany q1 q2 q3 hpm hit1 hB5 hB6 hT1 hin hin' hkm
    obtain ⟨ew, ef, es, er, ea, ec, ev0⟩ := ev
    have hb7 : Below W1.heap.size W1 (W1.alloc (.cells #[sV ew, sV ef, sV es, sV er, nV ea, nV ec, nV ev0] 79)) := (Below.refl _ _).alloc (Nat.le_refl _) _
    have Hb7 := hidC hb7
    clear hb7
    have goon : isF form ⟨ew, ef, es, er, ea, ec, ev0⟩ = false → CAny w2 (w.heap.size + 1) me d.ents (fun x => isF form x.2) rest' (W1.alloc (.cells #[sV ew, sV ef, sV es, sV er, nV ea, nV ec, nV ev0] 79)) := fun hf =>
     ⟨Hit1.out.below Hb7.out hr1 (by omega), HB5.out.trans (Hb7.out.mono (by omega)), by rw [Hany.out, hf]; rfl⟩
    cases form with
    | nil =>
     have HC2 := hidC (goon rfl)
     clear goon
     go_wp2
     go_roundg g'
     case measure => omega
     case rel => exact ⟨rest', HC2.out, Hin.out, by omega⟩
    | cons c1 l1 =>
     by_cases hf : ef = c1 :: l1
     ·subst hf
      have HR := hidC (find_yes HD.out Hg.out Hkm.out (by unfold isF; simp))
      clear goon
      go_wp2
      go_ret2
      rw [HR.out]
      exact ⟨rfl, HB6.out.trans (Hb7.out.mono (by have := HB6.out.size; omega))⟩
     ·have hbf : (ef == c1 :: l1) = false := beq_eq_false_iff_ne.2 hf
      have HC2 := hidC (goon (by unfold isF; rw [decide_eq_false hf, Bool.and_false]))
      clear goon hf
      go_wp2
      go_roundg g'
      case measure => omega
      case rel => exact ⟨rest', HC2.out, Hin.out, by omega⟩
end Go.Proofs.YtjeadhfponlnnaaGreatDoor
set_option linter.unusedSimpArgs false
set_option linter.unusedVariables false
namespace Go.Proofs.YtjeadhfponlnnaaGreatDoor
open Go.RowKit Go.Pur Go.Clerk
open Go.Abs
set_option maxRecDepth 1000000
set_option maxHeartbeats 8000000
def NewP (w : World) (S : Off) (e : Ending) (w' : World) : Prop := ∃ o, e = .returned (ptrV o) ∧ OffAt w' o S ∧ w.heap.size ≤ o ∧ Below w.heap.size w w'
theorem new_end {w w1 : World} (hb : Below w.heap.size w w1) {me ma : Nat} (h1 : w1.heap[me]? = some (.map #[] 0)) (h2 : w1.heap[ma]? = some (.map #[] 0)) (hne : me ≠ ma) (hs : w.heap.size ≤ w1.heap.size) :
  NewP w Off.none (.returned (ptrV (w1.heap.size + 1))) ((w1.alloc (.cells #[.map (some me), .map (some ma), .slice none 0 0, .int .u8 0] 98)).alloc (.cells #[ptrV w1.heap.size, .slice none 0 0, .slice none 0 0] 59)) := by
 have l1 := (Array.getElem?_eq_some_iff.1 h1).1
 have l2 := (Array.getElem?_eq_some_iff.1 h2).1
 have e : (w1.alloc (.cells #[.map (some me), .map (some ma), .slice none 0 0, .int .u8 0] 98)).heap.size = w1.heap.size + 1 := by simp
 have hm : ∀ {k : Nat}, k < w1.heap.size → ((w1.alloc (.cells #[.map (some me), .map (some ma), .slice none 0 0, .int .u8 0] 98)).alloc (.cells #[ptrV w1.heap.size, .slice none 0 0, .slice none 0 0] 59)).heap[k]? = w1.heap[k]? := fun {k} hk => by
  rw [heap_alloc_old _ _ (by rw [e]; omega), heap_alloc_old _ _ hk]
 refine ⟨_, rfl, ⟨w1.heap.size, _, _, [], ?_, ⟨me, ma, .slice none 0 0, ?_, Nat.zero_le _, Nat.zero_le _, Nat.zero_le _, hne, ⟨[], 0, (hm l1).trans h1, rfl, fun s h => (by cases h), List.nodup_nil⟩, ⟨[], 0, (hm l2).trans h2, rfl, fun s h => (by cases h), List.nodup_nil⟩, [], .nil, World.ownsRow_nil _ _ _ _⟩, World.ownsRow_nil _ _ _ _, .nil, World.ownsRow_nil _ _ _ _, rfl⟩, by omega, (hb.alloc hs _).alloc (by simp; omega) _⟩
 ·have := heap_alloc_new (w1.alloc (.cells #[.map (some me), .map (some ma), .slice none 0 0, .int .u8 0] 98)) (.cells #[ptrV w1.heap.size, .slice none 0 0, .slice none 0 0] 59)
  rw [e] at this
  exact this
 ·rw [heap_alloc_old _ _ (by rw [e]; omega)]
  exact heap_alloc_new _ _
theorem new_calls (w : World) : Calls Tryz.prog 16 #[] w fun e w' => NewP w Off.none e w' := by
 have mixed : Tryz.prog.follows .mixedOrders = true := by kernel_rfl
 have hm1 : ∀ w, (Instr.makeMap 95 none).run Tryz.prog w = .ok (.map (some w.heap.size)) (w.alloc (.map #[] 0)) := fun _ => rfl
 have hm2 : ∀ w, (Instr.makeMap 96 none).run Tryz.prog w = .ok (.map (some w.heap.size)) (w.alloc (.map #[] 0)) := fun _ => rfl
 have hN : NewP w Off.none (.returned (ptrV (((w.alloc (.map #[] 0)).alloc (.map #[] 0)).heap.size + 1))) _ := new_end (((Below.refl _ w).alloc (Nat.le_refl _) (.map #[] 0)).alloc (by simp) (.map #[] 0)) (me := w.heap.size) (ma := w.heap.size + 1) (by rw [heap_alloc_old _ _ (by simp)]; exact heap_alloc_new _ _) (by have := heap_alloc_new (w.alloc (.map #[] 0)) (.map #[] 0); simpa using this) (by omega) (by simp; omega)
 have hs : ((w.alloc (.map #[] 0)).alloc (.map #[] 0)).heap.size = w.heap.size + 2 := by simp
 rw [hs] at hN
 have HN := hidC hN
 clear hN
 go_enter Tryz.func16, Tryz.ntmps16
 go_wp2_with fail
 go_ret
 exact HN.out
theorem way22_calls (o : Nat) (S : Off) (wd : Tx) (w : World) (hO : OffAt w o S) (hl : S.now.ents.length ≤ 1000) : Calls Tryz.prog 22 #[ptrV o, sV wd] w fun e w' => ∃ v, e = .returned (.tuple #[v, nV (S.now.wayOf wd).2]) ∧ TextsAt w' v (S.now.wayOf wd).1 ∧ Below w.heap.size w w' := by
 have mixed : Tryz.prog.follows .mixedOrders = true := by kernel_rfl
 have hol := hO.lt
 obtain ⟨now, pv, lv, ps, h1, hd, -, -, -, -⟩ := hO
 have Hd := hidC hd
 obtain ⟨me, ma, vv, h2, -, -, -, -, h6, -, -⟩ := hd
 obtain ⟨d, hde⟩ : ∃ d, S.now = d := ⟨_, rfl⟩
 rw [hde] at h2 h6 Hd hl ⊢
 clear hde
 have hnl : now < w.heap.size := (Array.getElem?_eq_some_iff.1 h2).1
 have hme : me < w.heap.size := h6.lt
 have c0 := (off_cells h1).1
 have a1 := (desk_cells h2).1
 have k1 := lookE h6 wd
 have HI := hidC (invalid_calls o now w c0)
 clear h1 h2 h6
 obtain ⟨a0, ha0⟩ : ∃ a0, (getE wd d.ents).getD ent0 = a0 := ⟨_, rfl⟩
 obtain ⟨b0, hb0⟩ : ∃ b0, (getE wd d.ents).isSome = b0 := ⟨_, rfl⟩
 rw [ha0, hb0] at k1
 have Hb0 := hidC hb0
 have Ha0 := hidC ha0
 clear ha0 hb0
 obtain ⟨w1, hw1⟩ : ∃ x, w.alloc (.cells #[sV a0.word, sV a0.form, sV a0.see, sV a0.writer, nV a0.asked, nV a0.came, nV a0.vol] 79) = x := ⟨_, rfl⟩
 have hB1 : Below w.heap.size w w1 := by rw [← hw1]; exact (Below.refl _ _).alloc (Nat.le_refl _) _
 have HB1 := hidC hB1
 have c0' := (hB1.cell (p := ⟨o, 0, none⟩) hol).trans c0
 have HW := hidC (way_calls now wd d w1 0 (Hd.out.below hB1) hl)
 clear hB1
 cases b0 with
 | true =>
  have hR : d.wayOf wd = (d.way wd, 0) := by
   unfold Desk.wayOf
   cases hg : getE wd d.ents with
   | none => rw [hg] at Hb0; exact absurd Hb0.out (by simp)
   | some a => rfl
  have HR := hidC hR
  clear hR
  go_enter Tryz.func22, Tryz.ntmps22
  go_wp2_with (first | (go_at_call 49; refine HI.out.mono ?_; rintro e wa ⟨rfl, hwa⟩; subst wa) | (go_at_call 59; refine HW.out.mono ?_; rintro e wb ⟨v, rfl, hv, hbb⟩; have Hv := hidC hv; have Hbb := hidC hbb; clear hv hbb))
  go_ret2
  rw [HR.out]
  exact ⟨_, rfl, Hv.out, HB1.out.trans (Hbb.out.mono HB1.out.size)⟩
 | false =>
  have hR : d.wayOf wd = ([], 2) := by
   unfold Desk.wayOf
   cases hg : getE wd d.ents with
   | none => rfl
   | some a => rw [hg] at Hb0; exact absurd Hb0.out (by simp)
  have HR := hidC hR
  clear hR
  go_enter Tryz.func22, Tryz.ntmps22
  go_wp2_with (go_at_call 49; refine HI.out.mono ?_; rintro e wa ⟨rfl, hwa⟩; subst wa)
  go_ret2
  rw [HR.out]
  exact ⟨_, rfl, World.ownsRow_nil _ _ _ _, HB1.out⟩
theorem lines_calls (o : Nat) (S : Off) (w : World) (hO : OffAt w o S) (hl : S.lines.length ≤ 1000) : Calls Tryz.prog 30 #[ptrV o] w fun e w' => TxP w S.lines e w' := by
 have mixed : Tryz.prog.follows .mixedOrders = true := by kernel_rfl
 have hol := hO.lt
 obtain ⟨now, pv, lv, ps, h1, -, -, -, h5, -⟩ := hO
 obtain ⟨c0, -, c2, -⟩ := off_cells h1
 have HI := hidC (invalid_calls o now w c0)
 have HC := hidC (clone72 w lv S.lines h5 hl)
 go_enter Tryz.func30, Tryz.ntmps30
 go_wp2_with (first | (go_at_call 49; refine HI.out.mono ?_; rintro e wa ⟨rfl, hwa⟩; subst wa) | (go_at_call 72; refine HC.out.mono ?_; rintro e wb ⟨v, rfl, hv, hbb⟩))
 go_ret
 exact ⟨_, rfl, textsAt_of hv, hbb⟩
end Go.Proofs.YtjeadhfponlnnaaGreatDoor

/-
  Writers.
  Conditions: none; lemmas.
-/
import Derived.Test.YtdhichidcomkmaaGreatDoorLate40
set_option linter.unusedSimpArgs false
set_option linter.unusedVariables false
namespace Go.Proofs.YtdhichidcomkmaaGreatDoor
open Go.RowKit Go.Pur Go.Clerk
open Go.Abs
set_option maxRecDepth 1000000
set_option maxHeartbeats 8000000
def W39 (w : World) (B me : Nat) (d : Desk) (fin : List Ent) (M : List (Tx × (Tx × Nat))) (rest : List (Tx × Ent)) (wx : World) : Prop :=
 IterAt wx (B + 1) me entV (entL d.ents) rest ∧ MapAt wx B cntV M ∧ Below B w wx ∧ WrOK fin M ∧ (fin ++ rest.map (·.2)).Perm d.ents ∧ ∀ x ∈ rest, x ∈ entL d.ents
theorem W39.next {w : World} {B me : Nat} {d : Desk} {fin : List Ent} {M : List (Tx × (Tx × Nat))} {rest rest' : List (Tx × Ent)} {W1 W2 : World} {k : Tx} {e : Ent} (hit : IterAt W1 (B + 1) me entV (entL d.ents) rest') (hb : Below B w W1) (hw : WrOK fin M)
  (hp : (fin ++ rest.map (·.2)).Perm d.ents) (hin : ∀ x ∈ rest, x ∈ entL d.ents) (hpm : rest.Perm ((k, e) :: rest')) (hW : But (· = B) W1.heap.size W1 W2) (hme : me < W1.heap.size) (hne : me ≠ B) (hB : B ≤ W1.heap.size) (hM : MapAt W2 B cntV (stepW M e)) : W39 w B me d (fin ++ [e]) (stepW M e) rest' W2 := by
 have hr := hit.lt
 refine ⟨hit.eqb (hW.block me hme hne) (hW.block _ hr (by omega)), hM, hb.trans (hW.below hB (fun k hk => by omega)), hw.step e, ?_, fun x hx => hin x (hpm.mem_iff.2 (List.mem_cons_of_mem _ hx))⟩
 have h1 := (hpm.map (·.2)).append_left fin
 have h2 := h1.symm.trans hp
 rw [List.append_assoc]
 exact h2
theorem sumW_le {k : Tx} {l : List Ent} (h : ∀ e ∈ l, e.came ≤ 9999) : sumW k l ≤ l.length * 9999 := by
 unfold sumW
 have h1 := sumN_le (k := 9999) (l := (l.filter fun e => decide (e.writer = k)).map (·.came)) (fun n hn => by
  obtain ⟨e, he, rfl⟩ := List.mem_map.1 hn
  exact h e (List.mem_filter.1 he).1)
 have h2 : ((l.filter fun e => decide (e.writer = k)).map (·.came)).length ≤ l.length := by
  rw [List.length_map]; exact List.length_filter_le _ _
 exact Nat.le_trans h1 (Nat.mul_le_mul_right _ h2)
theorem get_sum {l : List Ent} {M : List (Tx × (Tx × Nat))} (h : WrOK l M) (k : Tx) (hk : k ≠ []) : ((kGet k M).getD zC).2 = sumW k l := by
 by_cases hm : k ∈ M.map (·.1)
 ·rw [h.get _ hm]; rfl
 ·rw [kGet_none hm, sumW_zero fun hx => hm ((h.mem _).2 ⟨hk, hx⟩)]; rfl
theorem nodup_len {α : Type} : ∀ {l m : List α}, l.Nodup → (∀ x ∈ l, x ∈ m) → l.length ≤ m.length
 | [], _, _, _ => Nat.zero_le _
 | a :: l, m, hn, h => by
  obtain ⟨m1, m2, rfl⟩ := List.append_of_mem (h a List.mem_cons_self)
  rw [List.nodup_cons] at hn
  have := nodup_len (m := m1 ++ m2) hn.2 fun x hx => by
   rcases List.mem_append.1 (h x (List.mem_cons_of_mem _ hx)) with h1 | h1
   ·exact List.mem_append_left _ h1
   ·rcases List.mem_cons.1 h1 with rfl | h1
    ·exact absurd hx hn.1
    ·exact List.mem_append_right _ h1
  simp at this ⊢
  omega
theorem itSet_but {W : World} {b : Nat} {o : Obj} {n : Nat} : But (· = b) n W (itSet W b o) := ⟨rfl, rfl, rfl, by simp [itSet], fun k _ hk => itSet_other hk⟩
theorem updC {W : World} {m : Nat} {l : List (Tx × (Tx × Nat))} (h : MapAt W m cntV l) (k : Tx) (x : Tx × Nat) : ∃ o, (Instr.mapUpdate 139 (.map (some m)) (sV k) (.agg #[sV x.1, nV x.2])).run Tryz.prog W = .ok () (itSet W m o) ∧ MapAt (itSet W m o) m cntV (kSet k x l) :=
 h.upd (P := Tryz.prog) (t := 139) (kt := 9) (et := 87) (by kernel_rfl) Tryz.underlying9 k x
theorem writers_calls (o : Nat) (S : Off) (w : World) (hO : OffAt w o S) (hD : DeskOK S.now) : Calls Tryz.prog 39 #[ptrV o] w fun e w' => RowP w 87 2 S.now.writers.length (S.now.writers.flatMap cellsC) e w' := by
 have mixed : Tryz.prog.follows .mixedOrders = true := by kernel_rfl
 have hol := hO.lt
 obtain ⟨now, pv, lv, ps, h1, hd, -, -, -, -⟩ := hO
 obtain ⟨me, ma, vv, h2, -, -, -, -, h6, -, -⟩ := hd
 obtain ⟨d, hde⟩ : ∃ d, S.now = d := ⟨_, rfl⟩
 rw [hde] at h2 h6 hD ⊢
 clear hde
 have hnl : now < w.heap.size := (Array.getElem?_eq_some_iff.1 h2).1
 have hme : me < w.heap.size := h6.lt
 have c0 := (off_cells h1).1
 have a1 := (desk_cells h2).1
 have HI := hidC (invalid_calls o now w c0)
 have hm1 : ∀ w, (Instr.makeMap 139 none).run Tryz.prog w = .ok (.map (some w.heap.size)) (w.alloc (.map #[] 0)) := fun _ => rfl
 have hbm : Below w.heap.size w (w.alloc (.map #[] 0)) := (Below.refl _ _).alloc (Nat.le_refl _) _
 have c0' := (hbm.cell (p := ⟨o, 0, none⟩) hol).trans c0
 have a1' := (hbm.cell (p := ⟨now, 0, none⟩) hnl).trans a1
 obtain ⟨ob, hrg, hit⟩ := range_start (P := Tryz.prog) (h6.below hbm hme) Tryz.underlying95
 have hsm : (w.alloc (.map #[] 0)).heap.size = w.heap.size + 1 := by simp
 rw [hsm] at hrg hit
 obtain ⟨w1, hw1⟩ : ∃ x, (w.alloc (.map #[] 0)).alloc ob = x := ⟨_, rfl⟩
 have hB1 : Below w.heap.size w w1 := by rw [← hw1]; exact hbm.alloc (by simp) _
 have hM1 : MapAt w1 w.heap.size cntV [] := by
  refine ⟨[], 0, ?_, rfl, fun s h => (by cases h), List.nodup_nil⟩
  have e : ((w.alloc (.map #[] 0)).alloc ob).heap[w.heap.size]? = (w.alloc (.map #[] 0)).heap[w.heap.size]? := Below.heap_alloc _ _ _ (by rw [hsm]; omega)
  rw [← hw1]
  exact e.trans (heap_alloc_new _ _)
 rw [hw1] at hrg hit
 have hse : ∀ l : List Ent, (entL l).map (·.2) = l := fun l => by unfold entL; rw [List.map_map]; exact List.map_id l
 have HC : Hid (W39 w w.heap.size me d [] [] (entL d.ents) w1) := hidC ⟨hit, hM1, hB1, WrOK.nil, by rw [hse]; exact List.Perm.refl _, fun x hx => hx⟩
 have hfew := hD.few
 have HD := hidC hD
 clear h1 h2 h6 hit hw1 hB1 hD hM1 hbm hse
 have hfc : ∀ (x : Tx × Nat) (W : World), (Instr.field 87 (cntV x) 1).run Tryz.prog W = .ok (nV x.2) W := fun x W => by kernel_rfl
 go_enter Tryz.func39, Tryz.ntmps39
 go_wp2_with (go_at_call 49; refine HI.out.mono ?_; rintro e wa ⟨rfl, hwa⟩; subst wa)
 clear c0 a1 c0' a1'
 go_loopg [5] (d.ents.length + 1) (fun gk s5 wx => ∃ fin M rest, W39 w w.heap.size me d fin M rest wx ∧ rest.length < gk)
 case atStart => exact ⟨[], [], _, HC.out, by simp [entL]⟩
 case round =>
  obtain ⟨fin, M, rest, hC, hgk⟩ := hrel
  obtain ⟨g', rfl⟩ : ∃ g', gk = g' + 1 := ⟨gk - 1, by omega⟩
  obtain ⟨q1, q2, q3, q4, q5, q6⟩ := hC
  have hrm : w.heap.size + 1 ≠ me := by omega
  have hme0 : me ≠ w.heap.size := by omega
  rcases next_step (P := Tryz.prog) q1 hrm 0 with ⟨rfl, hrun⟩ | ⟨k, ev, rest', W1, hpm, hrun, hit1, hT1, hent⟩
  ·have hperm : fin.Perm d.ents := by simpa using q5
   have hv := writers_eq hperm q4
   have hwl := congrArg List.length hv
   have hMl : M.length = d.writers.length := by
    rw [← hwl]
    unfold valsOf
    rw [List.length_map, List.length_mergeSort, List.length_map]
   have hlen2 : M.length ≤ 1000 ∧ ∀ x ∈ M, x.1.length ≤ 100000 := by
    have hmk : ∀ k ∈ M.map (·.1), k ≠ [] ∧ ∃ e ∈ fin, e.writer = k := fun k hk => (q4.mem k).1 hk
    refine ⟨?_, fun x hx => ?_⟩
    ·have := nodup_len (l := M.map (·.1)) (m := fin.map (·.writer)) q4.nd (fun k hk => by
      obtain ⟨_, e, he, rfl⟩ := hmk k hk
      exact List.mem_map_of_mem he)
     rw [List.length_map, List.length_map, hperm.length_eq] at this
     omega
    ·obtain ⟨h1, e, he, h2⟩ := hmk x.1 (List.mem_map_of_mem hx)
     have h3 := (HD.out.ent e (hperm.mem_iff.1 he)).writer
     rw [h2] at h3
     rcases h3 with h3 | h3
     ·exact absurd h3 h1
     ·exact Nat.le_trans h3.spec.2.1 (by decide)
   have ho := ordered85_calls w.heap.size M wr q2 q4.nd hlen2.2 hlen2.1
   rw [hv, hMl] at ho
   have HO := hidC ho
   have Q3 := hidC q3
   clear q1 q2 q3 q4 q5 q6 hperm hv hwl hMl hlen2 ho
   go_wp2_with (go_at_call 85; refine HO.out.mono ?_; rintro e wz ⟨v, rfl, hv, hbz⟩)
   go_ret
   have := Q3.out.size
   exact ⟨_, rfl, row_mono hv this, Q3.out.trans (hbz.mono this)⟩
  ·have hkm : (k, ev) ∈ entL d.ents := q6 _ (hpm.mem_iff.2 List.mem_cons_self)
   obtain ⟨y, hy, e0⟩ := List.mem_map.1 hkm
   obtain ⟨e1, e2⟩ := Prod.mk.inj e0
   subst e2; subst e1
   have hB1 : Below w.heap.size w W1 := hT1.below q3 (by omega)
   have hr1 : w.heap.size + 1 < W1.heap.size := hit1.lt
   have hM1 : MapAt W1 w.heap.size cntV M := q2.eqb (hT1.block _ (by omega))
   have hlen : rest.length = rest'.length + 1 := by rw [hpm.length_eq]; rfl
   have hcame := (HD.out.ent y hy).came
   have hsum : ∀ k, sumW k fin ≤ 400000 := fun k => by
    have hl : fin.length ≤ d.ents.length := by
     have := q5.length_eq
     simp at this
     omega
    have := sumW_le (k := k) (l := fin) (fun e he => (HD.out.ent e (q5.mem_iff.1 (List.mem_append_left _ he))).came)
    omega
   obtain ⟨W2, hW2⟩ : ∃ x, W1.alloc (.cells #[sV y.word, sV y.form, sV y.see, sV y.writer, nV y.asked, nV y.came, nV y.vol] 79) = x := ⟨_, rfl⟩
   have hb7 : Below W1.heap.size W1 W2 := by rw [← hW2]; exact (Below.refl _ _).alloc (Nat.le_refl _) _
   have hbox : W2.heap[W1.heap.size]? = some (.cells #[sV y.word, sV y.form, sV y.see, sV y.writer, nV y.asked, nV y.came, nV y.vol] 79 (0, 0)) := by rw [← hW2]; exact heap_alloc_new _ _
   obtain ⟨t0, t1, t2, t3, t4, t5, t6⟩ := box7 hbox
   have hM2 : MapAt W2 w.heap.size cntV M := hM1.below hb7 (by omega)
   have next := fun (W3 : World) (hW3 : But (· = w.heap.size) W1.heap.size W1 W3) (hM : MapAt W3 w.heap.size cntV (stepW M y)) => hidC (W39.next hit1 hB1 q4 q5 q6 hpm hW3 (by omega) hme0 (by omega) hM)
   have Q4 := hidC q4
   have Hb7 := hidC hb7
   have HM2 := hidC hM2
   clear q1 q2 q3 q4 q5 q6 hT1 hpm hit1 hB1 hkm e0 hM1 hM2 hb7 hbox t0 t1 t2 t4 t6
   obtain ⟨yw, yf, ys, yr, ya, yc, yv⟩ := y
   have hW2' : W1.alloc (.cells #[sV yw, sV yf, sV ys, sV yr, nV ya, nV yc, nV yv] 79) = W2 := hW2
   clear hW2
   cases yr with
   | nil =>
    have HS := next W2 (But.of Hb7.out) HM2.out
    clear next
    go_wp2
    go_roundg g'
    case measure => omega
    case rel => exact ⟨_, _, rest', HS.out, by omega⟩
   | cons r1 r2 =>
    have hlk := lookC1 HM2.out (r1 :: r2)
    obtain ⟨c, hc⟩ : ∃ c, (kGet (r1 :: r2) M).getD zC = c := ⟨_, rfl⟩
    have hcn : c.2 = sumW (r1 :: r2) fin := by rw [← hc]; exact get_sum Q4.out _ (by simp)
    have hc4 := hsum (r1 :: r2)
    rw [← hcn] at hc4
    have hyc : yc ≤ 9999 := hcame
    rw [hc] at hlk
    have t3d : W2.cell? ⟨W1.heap.size, 3, none⟩ = some (sV (r1 :: r2)) := t3
    have t5d : W2.cell? ⟨W1.heap.size, 5, none⟩ = some (nV yc) := t5
    obtain ⟨cw, cn⟩ := c
    have hcn4 : cn ≤ 400000 := hc4
    have hk9 : cn + yc ≤ 1000000000 := by omega
    have hlk2 : (Instr.lookup 139 (.map (some w.heap.size)) (sV (r1 :: r2)) false).run Tryz.prog W2 = .ok (.agg #[sV cw, nV cn]) W2 := hlk
    obtain ⟨ob2, hu0, hMu⟩ := updC HM2.out (r1 :: r2) (r1 :: r2, cn + yc)
    have hu : (Instr.mapUpdate 139 (.map (some w.heap.size)) (sV (r1 :: r2)) (.agg #[sV (r1 :: r2), .int .i64 ((cn + yc : Nat) : Int)])).run Tryz.prog W2 = .ok () (itSet W2 w.heap.size ob2) := hu0
    have hu2 : (Instr.mapUpdate 139 (.map (some w.heap.size)) (sV (r1 :: r2)) (.agg #[sV (r1 :: r2), .int .i64 ((cn : Int) + (yc : Int))])).run Tryz.prog W2 = .ok () (itSet W2 w.heap.size ob2) := by
     rw [← Int.natCast_add]; exact hu0
    have hst : stepW M ⟨yw, yf, ys, r1 :: r2, ya, yc, yv⟩ = kSet (r1 :: r2) (r1 :: r2, cn + yc) M := by
     unfold stepW
     simp only []
     rw [hc]
    rw [← hst] at hMu
    have HS := next (itSet W2 w.heap.size ob2) ((But.of Hb7.out).trans itSet_but) hMu
    have hf2 : (Instr.field 87 (.agg #[sV cw, nV cn]) 1).run Tryz.prog W2 = .ok (nV cn) W2 := hfc (cw, cn) W2
    clear hu hcn4 hyc hcame
    clear next hMu hst hu0 hc hcn hsum hlk hfc t3 t5 hc4
    go_upto_region 8 with fail
    go_wp2_with fail
    go_roundg g'
    case measure => omega
    case rel => exact ⟨_, _, rest', HS.out, by omega⟩
end Go.Proofs.YtdhichidcomkmaaGreatDoor

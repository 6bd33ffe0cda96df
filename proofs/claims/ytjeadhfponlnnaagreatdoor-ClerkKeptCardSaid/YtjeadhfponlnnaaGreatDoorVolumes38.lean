/-
  Late.
  Writers.
  Volumes: the volumes, each with words of its own.
  Rows of entries, accounts, counts and volumes in memory, one by one.
  Conditions: none; definitions and lemmas.
-/
import Derived.Test.YtjeadhfponlnnaaGreatDoorVals14
set_option linter.unusedSimpArgs false
set_option linter.unusedVariables false
namespace Go.Proofs.YtjeadhfponlnnaaGreatDoor
open Go.RowKit Go.Pur Go.Clerk
open Go.Abs
set_option maxRecDepth 1000000
set_option maxHeartbeats 8000000
def isLate (d : Desk) (e : Ent) : Bool := !e.writer.isEmpty && decide (e.came = 0) && d.shut e.word
def selL (d : Desk) (x : List (Tx × Ent)) : List Tx := (x.filter fun y => isLate d y.2).map (·.1)
theorem selL_step {d : Desk} {rest rest' : List (Tx × Ent)} {k : Tx} {e : Ent} (h : rest.Perm ((k, e) :: rest')) : (selL d rest).Perm ((if isLate d e then [k] else []) ++ selL d rest') := by
 have h2 := (h.filter (fun y => isLate d y.2)).map (·.1)
 unfold selL
 refine h2.trans ?_
 rw [List.filter_cons]
 by_cases hc : isLate d e = true
 ·simp [hc]
 ·simp [hc]
theorem selL_entL {d : Desk} {l : List Ent} : selL d (entL l) = (l.filter (isLate d)).map (·.word) := by
 unfold selL entL
 rw [List.filter_map, List.map_map]
 rfl
def L40 (w : World) (r me : Nat) (d : Desk) (out : List Tx) (rest : List (Tx × Ent)) (v : Value) (wx : World) : Prop :=
 IterAt wx r me entV (entL d.ents) rest ∧ wx.ownsRow (r + 1) 9 1 v out.length (out.map sV) ∧ Below r w wx ∧ (out ++ selL d rest).Perm (selL d (entL d.ents)) ∧ out.length + rest.length ≤ d.ents.length ∧ ∀ x ∈ rest, x ∈ entL d.ents
theorem L40.skip {w : World} {r me : Nat} {d : Desk} {out : List Tx} {rest rest' : List (Tx × Ent)} {v : Value} {W1 W2 : World} {k : Tx} {e : Ent} (hit : IterAt W1 r me entV (entL d.ents) rest') (hown : W1.ownsRow (r + 1) 9 1 v out.length (out.map sV)) (hb : Below r w W1)
  (hp : (out ++ selL d rest).Perm (selL d (entL d.ents))) (hlen : out.length + rest.length ≤ d.ents.length) (hin : ∀ x ∈ rest, x ∈ entL d.ents) (hpm : rest.Perm ((k, e) :: rest')) (hl : isLate d e = false) (hW : Below W1.heap.size W1 W2) (hme : me < W1.heap.size) : L40 w r me d out rest' v W2 := by
 have hr := hit.lt
 refine ⟨hit.below hW hr hme, row_below hown hW, hb.trans (hW.mono (by omega)), ?_, by have := hpm.length_eq; simp at this; omega, fun x hx => hin x (hpm.mem_iff.2 (List.mem_cons_of_mem _ hx))⟩
 have h1 := selL_step (d := d) hpm
 rw [hl] at h1
 exact (h1.append_left out).symm.trans hp
theorem late_calls (o : Nat) (S : Off) (w : World) (hO : OffAt w o S) (hD : DeskOK S.now) : Calls Tryz.prog 40 #[ptrV o] w fun e w' => TxP w S.now.late e w' := by
 have mixed : Tryz.prog.follows .mixedOrders = true := by kernel_rfl
 have hol := hO.lt
 obtain ⟨now, pv, lv, ps, h1, hd, -, -, -, -⟩ := hO
 obtain ⟨me, ma, vv, h2, -, -, -, -, h6, -, -⟩ := hd
 obtain ⟨d, hde⟩ : ∃ d, S.now = d := ⟨_, rfl⟩
 rw [hde] at h2 h6 hD ⊢
 clear hde
 have hnl : now < w.heap.size := (Array.getElem?_eq_some_iff.1 h2).1
 have hme : me < w.heap.size := h6.lt
 have c0 := (off_cells h1).1
 have a1 := (desk_cells h2).1
 have HI := hidC (invalid_calls o now w c0)
 have HSh : Hid (∀ W, Below w.heap.size w W → ∀ k, k ≠ [] → Calls Tryz.prog 86 #[ptrV now, sV k] W fun e W' => e = .returned (.bool (d.shut k)) ∧ W' = W.drew) :=
  hidC fun W hW k hk => shut_calls now k d W me ma vv ((hW.block now hnl).trans h2) hk
 obtain ⟨ob, hrg, hit⟩ := range_start (P := Tryz.prog) h6 Tryz.underlying95
 obtain ⟨w1, hw1⟩ : ∃ x, w.alloc ob = x := ⟨_, rfl⟩
 have hB1 : Below w.heap.size w w1 := by rw [← hw1]; exact (Below.refl _ _).alloc (Nat.le_refl _) _
 rw [hw1] at hrg hit
 have H1 := hidC h1
 have HC : Hid (L40 w w.heap.size me d [] (entL d.ents) (.slice none 0 0) w1) := hidC ⟨hit, World.ownsRow_nil _ _ _ _, hB1, List.Perm.refl _, by simp [entL], fun x hx => hx⟩
 have hfew := hD.few
 have HD := hidC hD
 clear h1 h2 h6 hit hw1 hB1 hD
 go_enter Tryz.func40, Tryz.ntmps40
 go_wp2_with (go_at_call 49; refine HI.out.mono ?_; rintro e wa ⟨rfl, hwa⟩; subst wa)
 clear c0 a1
 go_loopg [3, 4, 5] (d.ents.length + 1) (fun gk s3 s4 s5 wx => ∃ out rest, L40 w w.heap.size me d out rest s3 wx ∧ rest.length < gk)
 case atStart => exact ⟨[], _, HC.out, by simp [entL]⟩
 case round =>
  obtain ⟨out, rest, hC, hgk⟩ := hrel
  obtain ⟨g', rfl⟩ : ∃ g', gk = g' + 1 := ⟨gk - 1, by omega⟩
  obtain ⟨q1, q2, q3, q4, q5, q6⟩ := hC
  have hrm : w.heap.size ≠ me := by omega
  rcases next_step (P := Tryz.prog) q1 hrm 0 with ⟨rfl, hrun⟩ | ⟨k, ev, rest', W1, hpm, hrun, hit1, hT1, hent⟩
  ·have hperm : out.Perm (selL d (entL d.ents)) := by simpa [selL] using q4
   have hlate : out.mergeSort leT = d.late := by
    rw [sort_perm hperm, selL_entL]
    rfl
   have Q2 := hidC q2
   have Q3 := hidC q3
   have Q5 := hidC q5
   have HLt := hidC hlate
   clear q1 q2 q3 q4 q6 hperm hlate
   have hol5 : out.length ≤ 1000 := by have := Q5.out; omega
   rcases Q2.out.2 with ⟨rfl, hz⟩ | ⟨gb, cap, cur, rfl, hbase, -⟩
   ·have hz' : out = [] := List.eq_nil_of_length_eq_zero hz
    subst hz'
    go_wp2_with (go_at_call 44; refine (AnyM.slices_Sort_string_none Tryz.sort44 none 0 _).mono ?_; rintro e wz ⟨rfl, rfl⟩)
    go_ret
    rw [← HLt.out]
    exact ⟨_, rfl, by rw [List.mergeSort_nil]; exact World.ownsRow_nil _ _ _ _, Q3.out⟩
   ·have HSo := hidC (sort_calls wr _ gb cap out Q2.out hol5)
    go_wp2_with (go_at_call 44; refine HSo.out.mono ?_; rintro e wz ⟨rfl, hz, hgz⟩)
    go_ret
    rw [← HLt.out]
    refine ⟨_, rfl, ?_, Q3.out.grown hgz (by have := Q3.out.size; omega) (fun j hj => by cases hj; omega)⟩
    have hl2 : (out.mergeSort leT).length = out.length := List.length_mergeSort out
    unfold TextsAt
    rw [hl2]
    exact row_mono hz (Nat.zero_le _)
  ·have hkm : (k, ev) ∈ entL d.ents := q6 _ (hpm.mem_iff.2 List.mem_cons_self)
   obtain ⟨y, hy, e0⟩ := List.mem_map.1 hkm
   obtain ⟨e1, e2⟩ := Prod.mk.inj e0
   subst e2; subst e1
   have hne : y.word ≠ [] := (HD.out.ent y hy).word.spec.1
   have hown1 : W1.ownsRow (w.heap.size + 1) 9 1 u3 out.length (out.map sV) := own_eqb q2 fun k h1 _ => hT1.block k (by omega)
   have hB1 : Below w.heap.size w W1 := hT1.below q3 (Nat.le_refl _)
   have hr1 : w.heap.size < W1.heap.size := hit1.lt
   have Hit1 := hidC hit1
   have Hown1 := hidC hown1
   have HB1 := hidC hB1
   have Q4 := hidC q4
   have Q6 := hidC q6
   have Hpm := hidC hpm
   have Hne := hidC hne
   have hlen : rest.length = rest'.length + 1 := by rw [hpm.length_eq]; rfl
   clear q1 q2 q3 q4 q6 hT1 hpm hit1 hown1 hB1 hkm e0 hne
   obtain ⟨W2, hW2⟩ : ∃ x, W1.alloc (.cells #[sV y.word, sV y.form, sV y.see, sV y.writer, nV y.asked, nV y.came, nV y.vol] 79) = x := ⟨_, rfl⟩
   have hb7 : Below W1.heap.size W1 W2 := by rw [← hW2]; exact (Below.refl _ _).alloc (Nat.le_refl _) _
   have hs2 : W2.heap.size = W1.heap.size + 1 := by rw [← hW2]; simp
   have hbox : W2.heap[W1.heap.size]? = some (.cells #[sV y.word, sV y.form, sV y.see, sV y.writer, nV y.asked, nV y.came, nV y.vol] 79 (0, 0)) := by rw [← hW2]; exact heap_alloc_new _ _
   have hB2 : Below w.heap.size w W2 := HB1.out.trans (hb7.mono (by omega))
   obtain ⟨t0, t1, t2, t3, t4, t5, t6⟩ := box7 hbox
   have co := (off_cells ((hB2.block o hol).trans H1.out)).1
   have skip := fun (hl : isLate d y = false) (W3 : World) (hW3 : Below W2.heap.size W2 W3) => hidC (L40.skip (W2 := W3) Hit1.out Hown1.out HB1.out Q4.out q5 Q6.out Hpm.out hl (hb7.trans (hW3.mono (by omega))) (by omega))
   have HSh2 := hidC (HSh.out W2 hB2 y.word Hne.out)
   have Hb7 := hidC hb7
   have HB2 := hidC hB2
   clear hb7 hbox hB2 t0 t1 t2 t4 t6
   obtain ⟨yw, yf, ys, yr, ya, yc, yv⟩ := y
   have hW2' : W1.alloc (.cells #[sV yw, sV yf, sV ys, sV yr, nV ya, nV yc, nV yv] 79) = W2 := hW2
   clear hW2
   have hs2' := hs2
   cases yr with
   | nil =>
    have HS := skip rfl W2 (Below.refl _ _)
    clear skip
    go_wp2
    go_roundg g'
    case measure => omega
    case rel => exact ⟨out, rest', HS.out, by omega⟩
   | cons r1 r2 =>
    by_cases hc : yc = 0
    ·have hci : ((yc : Int) == 0) = true := by rw [hc]; rfl
     cases hsh : d.shut yw with
     | false =>
      rw [hsh] at HSh2
      have HS := skip (by unfold isLate; show (_ && d.shut yw) = false; rw [hsh, Bool.and_false]) W2.drew ((Below.refl _ _).drew)
      clear skip hsh hc
      go_wp2_with (go_at_call 86; refine HSh2.out.mono ?_; rintro e wz ⟨rfl, rfl⟩)
      go_roundg g'
      case measure => omega
      case rel => exact ⟨out, rest', HS.out, by omega⟩
     | true =>
      rw [hsh] at HSh2
      have hlt : isLate d ⟨yw, yf, ys, r1 :: r2, ya, yc, yv⟩ = true := by unfold isLate; show (_ && decide (yc = 0) && d.shut yw) = true; rw [hsh, decide_eq_true hc]; rfl
      have Hlt := hidC hlt
      clear skip hsh hlt hc
      obtain ⟨i0, hi0, hz0, hz1', hz2⟩ := info_parts (show (Tryz.prog.info? 9).map (fun i => (i.zero, i.size, i.bytes)) = some (some (.string ⟨#[]⟩), 1, 16) by kernel_rfl)
      have Hi0 := hidC hi0
      have hb8 : Below W1.heap.size W1 ((W2.alloc (.cells #[sV yw] 9)).drew) := (Hb7.out.alloc (by omega) _).drew
      have Hb8 := hidC hb8
      have Hown2 : Hid (((W2.alloc (.cells #[sV yw] 9)).drew).ownsRow (w.heap.size + 1) 9 1 u3 out.length (out.map sV)) := hidC (row_below Hown1.out hb8)
      have hcn : ∀ (j : Nat) v, [sV yw][j]? = some v → ((W2.alloc (.cells #[sV yw] 9)).drew).cell? ((⟨W1.heap.size + 1, 0, none⟩ : Addr).add j) = some v := by rw [← hs2]; exact cell_one_new W2 (sV yw) 9
      have Hcn := hidC hcn
      clear hb8 hcn
      clear hi0
      go_wp2_with (first | (go_at_call 86; refine HSh2.out.mono ?_; rintro e wz ⟨rfl, rfl⟩) | (at_builtin; refine wpList_append_own _ rfl _ _ 22 rfl (w.heap.size + 1) 9 i0 (.string ⟨#[]⟩) 1 16 Tryz.underlying22 Hi0.out hz0 hz1' hz2 rfl (by decide) u3 _ _ rfl Hown2.out ⟨W1.heap.size + 1, 0, none⟩ 1 1 [sV yw] rfl rfl ?c1 ?c2 ?c3 ?c4 ?c5 ?_))
      case c1 => exact Hcn.out
      case c2 => exact fun u hu => by rw [List.mem_singleton.1 hu]; rfl
      case c3 => unfold maxLen; omega
      case c4 => omega
      case c5 => simp; omega
      rintro v4 w4 hown4 hg4 -
      have hB4 : Below w.heap.size w w4 := (HB1.out.trans (Hb8.out.mono (by omega))).grown hg4 (by have := Hb8.out.size; omega) (fun k hk => by have := Hown2.out.lt k hk; omega)
      have hit4 : IterAt w4 w.heap.size me entV (entL d.ents) rest' := by
       have h0 := hg4.block
       have hlt2 := fun k hk => (Hown2.out.lt k hk).1
       have hz8 := Hb8.out.size
       refine (Hit1.out.below Hb8.out hr1 (by omega)).eqb ?_ ?_
       ·exact h0 me (by omega) (fun e => by have := hlt2 me e.symm; omega)
       ·exact h0 w.heap.size (by omega) (fun e => by have := hlt2 _ e.symm; omega)
      have HR : Hid (L40 w w.heap.size me d (out ++ [yw]) rest' v4 w4) := by
       refine hidC ⟨hit4, ?_, hB4, ?_, by simp; omega, fun x hx => Q6.out x (Hpm.out.mem_iff.2 (List.mem_cons_of_mem _ hx))⟩
       ·rw [List.length_append, List.map_append]
        exact hown4
       ·have h1 := selL_step (d := d) Hpm.out
        rw [Hlt.out] at h1
        have h2 := (h1.append_left out).symm.trans Q4.out
        rw [List.append_assoc]
        exact h2
      clear hown4 hit4 hB4 hg4
      go_wp2_with fail
      go_roundg g'
      case measure => omega
      case rel => exact ⟨out ++ [yw], rest', HR.out, by omega⟩
    ·have hci : ((yc : Int) == 0) = false := beq_eq_false_iff_ne.2 (by omega)
     have HS := skip (by unfold isLate; show (_ && decide (yc = 0) && _) = false; rw [decide_eq_false hc, Bool.and_false, Bool.false_and]) W2 (Below.refl _ _)
     clear skip
     go_wp2
     go_roundg g'
     case measure => omega
     case rel => exact ⟨out, rest', HS.out, by omega⟩
end Go.Proofs.YtjeadhfponlnnaaGreatDoor
set_option linter.unusedSimpArgs false
set_option linter.unusedVariables false
namespace Go.Proofs.YtjeadhfponlnnaaGreatDoor
open Go.RowKit Go.Pur Go.Clerk
open Go.Abs
set_option maxRecDepth 1000000
set_option maxHeartbeats 8000000
def W39 (w : World) (B me : Nat) (d : Desk) (fin : List Ent) (M : List (Tx × (Tx × Nat))) (rest : List (Tx × Ent)) (wx : World) : Prop :=
 IterAt wx (B + 1) me entV (entL d.ents) rest ∧ MapAt wx B cntV M ∧ Below B w wx ∧ WrOK fin M ∧ (fin ++ rest.map (·.2)).Perm d.ents ∧ ∀ x ∈ rest, x ∈ entL d.ents
theorem W39.next {w : World} {B me : Nat} {d : Desk} {fin : List Ent} {M : List (Tx × (Tx × Nat))} {rest rest' : List (Tx × Ent)} {W1 W2 : World} {k : Tx} {e : Ent} (hit : IterAt W1 (B + 1) me entV (entL d.ents) rest') (hb : Below B w W1) (hw : WrOK fin M)
  (hp : (fin ++ rest.map (·.2)).Perm d.ents) (hin : ∀ x ∈ rest, x ∈ entL d.ents) (hpm : rest.Perm ((k, e) :: rest')) (hW : But (· = B) W1.heap.size W1 W2) (hme : me < W1.heap.size) (hne : me ≠ B) (hB : B ≤ W1.heap.size) (hM : MapAt W2 B cntV (stepW M e)) : W39 w B me d (fin ++ [e]) (stepW M e) rest' W2 := by
 have hr := hit.lt
 refine ⟨hit.eqb (hW.block me hme hne) (hW.block _ hr (by omega)), hM, hb.trans (hW.below hB (fun k hk => by omega)), hw.step e, ?_, fun x hx => hin x (hpm.mem_iff.2 (List.mem_cons_of_mem _ hx))⟩
 have h1 := (hpm.map (·.2)).append_left fin
 have h2 := h1.symm.trans hp
 rw [List.append_assoc]
 exact h2
theorem sumW_le {k : Tx} {l : List Ent} (h : ∀ e ∈ l, e.came ≤ 9999) : sumW k l ≤ l.length * 9999 := by
 unfold sumW
 have h1 := sumN_le (k := 9999) (l := (l.filter fun e => decide (e.writer = k)).map (·.came)) (fun n hn => by
  obtain ⟨e, he, rfl⟩ := List.mem_map.1 hn
  exact h e (List.mem_filter.1 he).1)
 have h2 : ((l.filter fun e => decide (e.writer = k)).map (·.came)).length ≤ l.length := by
  rw [List.length_map]; exact List.length_filter_le _ _
 exact Nat.le_trans h1 (Nat.mul_le_mul_right _ h2)
theorem get_sum {l : List Ent} {M : List (Tx × (Tx × Nat))} (h : WrOK l M) (k : Tx) (hk : k ≠ []) : ((kGet k M).getD zC).2 = sumW k l := by
 by_cases hm : k ∈ M.map (·.1)
 ·rw [h.get _ hm]; rfl
 ·rw [kGet_none hm, sumW_zero fun hx => hm ((h.mem _).2 ⟨hk, hx⟩)]; rfl
theorem nodup_len {α : Type} : ∀ {l m : List α}, l.Nodup → (∀ x ∈ l, x ∈ m) → l.length ≤ m.length
 | [], _, _, _ => Nat.zero_le _
 | a :: l, m, hn, h => by
  obtain ⟨m1, m2, rfl⟩ := List.append_of_mem (h a List.mem_cons_self)
  rw [List.nodup_cons] at hn
  have := nodup_len (m := m1 ++ m2) hn.2 fun x hx => by
   rcases List.mem_append.1 (h x (List.mem_cons_of_mem _ hx)) with h1 | h1
   ·exact List.mem_append_left _ h1
   ·rcases List.mem_cons.1 h1 with rfl | h1
    ·exact absurd hx hn.1
    ·exact List.mem_append_right _ h1
  simp at this ⊢
  omega
theorem itSet_but {W : World} {b : Nat} {o : Obj} {n : Nat} : But (· = b) n W (itSet W b o) := ⟨rfl, rfl, rfl, by simp [itSet], fun k _ hk => itSet_other hk⟩
theorem updC {W : World} {m : Nat} {l : List (Tx × (Tx × Nat))} (h : MapAt W m cntV l) (k : Tx) (x : Tx × Nat) : ∃ o, (Instr.mapUpdate 139 (.map (some m)) (sV k) (.agg #[sV x.1, nV x.2])).run Tryz.prog W = .ok () (itSet W m o) ∧ MapAt (itSet W m o) m cntV (kSet k x l) :=
 h.upd (P := Tryz.prog) (t := 139) (kt := 9) (et := 87) (by kernel_rfl) Tryz.underlying9 k x
theorem writers_calls (o : Nat) (S : Off) (w : World) (hO : OffAt w o S) (hD : DeskOK S.now) : Calls Tryz.prog 39 #[ptrV o] w fun e w' => RowP w 87 2 S.now.writers.length (S.now.writers.flatMap cellsC) e w' := by
 have mixed : Tryz.prog.follows .mixedOrders = true := by kernel_rfl
 have hol := hO.lt
 obtain ⟨now, pv, lv, ps, h1, hd, -, -, -, -⟩ := hO
 obtain ⟨me, ma, vv, h2, -, -, -, -, h6, -, -⟩ := hd
 obtain ⟨d, hde⟩ : ∃ d, S.now = d := ⟨_, rfl⟩
 rw [hde] at h2 h6 hD ⊢
 clear hde
 have hnl : now < w.heap.size := (Array.getElem?_eq_some_iff.1 h2).1
 have hme : me < w.heap.size := h6.lt
 have c0 := (off_cells h1).1
 have a1 := (desk_cells h2).1
 have HI := hidC (invalid_calls o now w c0)
 have hm1 : ∀ w, (Instr.makeMap 139 none).run Tryz.prog w = .ok (.map (some w.heap.size)) (w.alloc (.map #[] 0)) := fun _ => rfl
 have hbm : Below w.heap.size w (w.alloc (.map #[] 0)) := (Below.refl _ _).alloc (Nat.le_refl _) _
 have c0' := (hbm.cell (p := ⟨o, 0, none⟩) hol).trans c0
 have a1' := (hbm.cell (p := ⟨now, 0, none⟩) hnl).trans a1
 obtain ⟨ob, hrg, hit⟩ := range_start (P := Tryz.prog) (h6.below hbm hme) Tryz.underlying95
 have hsm : (w.alloc (.map #[] 0)).heap.size = w.heap.size + 1 := by simp
 rw [hsm] at hrg hit
 obtain ⟨w1, hw1⟩ : ∃ x, (w.alloc (.map #[] 0)).alloc ob = x := ⟨_, rfl⟩
 have hB1 : Below w.heap.size w w1 := by rw [← hw1]; exact hbm.alloc (by simp) _
 have hM1 : MapAt w1 w.heap.size cntV [] := by
  refine ⟨[], 0, ?_, rfl, fun s h => (by cases h), List.nodup_nil⟩
  have e : ((w.alloc (.map #[] 0)).alloc ob).heap[w.heap.size]? = (w.alloc (.map #[] 0)).heap[w.heap.size]? := Below.heap_alloc _ _ _ (by rw [hsm]; omega)
  rw [← hw1]
  exact e.trans (heap_alloc_new _ _)
 rw [hw1] at hrg hit
 have hse : ∀ l : List Ent, (entL l).map (·.2) = l := fun l => by unfold entL; rw [List.map_map]; exact List.map_id l
 have HC : Hid (W39 w w.heap.size me d [] [] (entL d.ents) w1) := hidC ⟨hit, hM1, hB1, WrOK.nil, by rw [hse]; exact List.Perm.refl _, fun x hx => hx⟩
 have hfew := hD.few
 have HD := hidC hD
 clear h1 h2 h6 hit hw1 hB1 hD hM1 hbm hse
 have hfc : ∀ (x : Tx × Nat) (W : World), (Instr.field 87 (cntV x) 1).run Tryz.prog W = .ok (nV x.2) W := fun x W => by kernel_rfl
 go_enter Tryz.func39, Tryz.ntmps39
 go_wp2_with (go_at_call 49; refine HI.out.mono ?_; rintro e wa ⟨rfl, hwa⟩; subst wa)
 clear c0 a1 c0' a1'
 go_loopg [5] (d.ents.length + 1) (fun gk s5 wx => ∃ fin M rest, W39 w w.heap.size me d fin M rest wx ∧ rest.length < gk)
 case atStart => exact ⟨[], [], _, HC.out, by simp [entL]⟩
 case round =>
  obtain ⟨fin, M, rest, hC, hgk⟩ := hrel
  obtain ⟨g', rfl⟩ : ∃ g', gk = g' + 1 := ⟨gk - 1, by omega⟩
  obtain ⟨q1, q2, q3, q4, q5, q6⟩ := hC
  have hrm : w.heap.size + 1 ≠ me := by omega
  have hme0 : me ≠ w.heap.size := by omega
  rcases next_step (P := Tryz.prog) q1 hrm 0 with ⟨rfl, hrun⟩ | ⟨k, ev, rest', W1, hpm, hrun, hit1, hT1, hent⟩
  ·have hperm : fin.Perm d.ents := by simpa using q5
   have hv := writers_eq hperm q4
   have hwl := congrArg List.length hv
   have hMl : M.length = d.writers.length := by
    rw [← hwl]
    unfold valsOf
    rw [List.length_map, List.length_mergeSort, List.length_map]
   have hlen2 : M.length ≤ 1000 ∧ ∀ x ∈ M, x.1.length ≤ 100000 := by
    have hmk : ∀ k ∈ M.map (·.1), k ≠ [] ∧ ∃ e ∈ fin, e.writer = k := fun k hk => (q4.mem k).1 hk
    refine ⟨?_, fun x hx => ?_⟩
    ·have := nodup_len (l := M.map (·.1)) (m := fin.map (·.writer)) q4.nd (fun k hk => by
      obtain ⟨_, e, he, rfl⟩ := hmk k hk
      exact List.mem_map_of_mem he)
     rw [List.length_map, List.length_map, hperm.length_eq] at this
     omega
    ·obtain ⟨h1, e, he, h2⟩ := hmk x.1 (List.mem_map_of_mem hx)
     have h3 := (HD.out.ent e (hperm.mem_iff.1 he)).writer
     rw [h2] at h3
     rcases h3 with h3 | h3
     ·exact absurd h3 h1
     ·exact Nat.le_trans h3.spec.2.1 (by decide)
   have ho := ordered85_calls w.heap.size M wr q2 q4.nd hlen2.2 hlen2.1
   rw [hv, hMl] at ho
   have HO := hidC ho
   have Q3 := hidC q3
   clear q1 q2 q3 q4 q5 q6 hperm hv hwl hMl hlen2 ho
   go_wp2_with (go_at_call 85; refine HO.out.mono ?_; rintro e wz ⟨v, rfl, hv, hbz⟩)
   go_ret
   have := Q3.out.size
   exact ⟨_, rfl, row_mono hv this, Q3.out.trans (hbz.mono this)⟩
  ·have hkm : (k, ev) ∈ entL d.ents := q6 _ (hpm.mem_iff.2 List.mem_cons_self)
   obtain ⟨y, hy, e0⟩ := List.mem_map.1 hkm
   obtain ⟨e1, e2⟩ := Prod.mk.inj e0
   subst e2; subst e1
   have hB1 : Below w.heap.size w W1 := hT1.below q3 (by omega)
   have hr1 : w.heap.size + 1 < W1.heap.size := hit1.lt
   have hM1 : MapAt W1 w.heap.size cntV M := q2.eqb (hT1.block _ (by omega))
   have hlen : rest.length = rest'.length + 1 := by rw [hpm.length_eq]; rfl
   have hcame := (HD.out.ent y hy).came
   have hsum : ∀ k, sumW k fin ≤ 400000 := fun k => by
    have hl : fin.length ≤ d.ents.length := by
     have := q5.length_eq
     simp at this
     omega
    have := sumW_le (k := k) (l := fin) (fun e he => (HD.out.ent e (q5.mem_iff.1 (List.mem_append_left _ he))).came)
    omega
   obtain ⟨W2, hW2⟩ : ∃ x, W1.alloc (.cells #[sV y.word, sV y.form, sV y.see, sV y.writer, nV y.asked, nV y.came, nV y.vol] 79) = x := ⟨_, rfl⟩
   have hb7 : Below W1.heap.size W1 W2 := by rw [← hW2]; exact (Below.refl _ _).alloc (Nat.le_refl _) _
   have hbox : W2.heap[W1.heap.size]? = some (.cells #[sV y.word, sV y.form, sV y.see, sV y.writer, nV y.asked, nV y.came, nV y.vol] 79 (0, 0)) := by rw [← hW2]; exact heap_alloc_new _ _
   obtain ⟨t0, t1, t2, t3, t4, t5, t6⟩ := box7 hbox
   have hM2 : MapAt W2 w.heap.size cntV M := hM1.below hb7 (by omega)
   have next := fun (W3 : World) (hW3 : But (· = w.heap.size) W1.heap.size W1 W3) (hM : MapAt W3 w.heap.size cntV (stepW M y)) => hidC (W39.next hit1 hB1 q4 q5 q6 hpm hW3 (by omega) hme0 (by omega) hM)
   have Q4 := hidC q4
   have Hb7 := hidC hb7
   have HM2 := hidC hM2
   clear q1 q2 q3 q4 q5 q6 hT1 hpm hit1 hB1 hkm e0 hM1 hM2 hb7 hbox t0 t1 t2 t4 t6
   obtain ⟨yw, yf, ys, yr, ya, yc, yv⟩ := y
   have hW2' : W1.alloc (.cells #[sV yw, sV yf, sV ys, sV yr, nV ya, nV yc, nV yv] 79) = W2 := hW2
   clear hW2
   cases yr with
   | nil =>
    have HS := next W2 (But.of Hb7.out) HM2.out
    clear next
    go_wp2
    go_roundg g'
    case measure => omega
    case rel => exact ⟨_, _, rest', HS.out, by omega⟩
   | cons r1 r2 =>
    have hlk := lookC1 HM2.out (r1 :: r2)
    obtain ⟨c, hc⟩ : ∃ c, (kGet (r1 :: r2) M).getD zC = c := ⟨_, rfl⟩
    have hcn : c.2 = sumW (r1 :: r2) fin := by rw [← hc]; exact get_sum Q4.out _ (by simp)
    have hc4 := hsum (r1 :: r2)
    rw [← hcn] at hc4
    have hyc : yc ≤ 9999 := hcame
    rw [hc] at hlk
    have t3d : W2.cell? ⟨W1.heap.size, 3, none⟩ = some (sV (r1 :: r2)) := t3
    have t5d : W2.cell? ⟨W1.heap.size, 5, none⟩ = some (nV yc) := t5
    obtain ⟨cw, cn⟩ := c
    have hcn4 : cn ≤ 400000 := hc4
    have hk9 : cn + yc ≤ 1000000000 := by omega
    have hlk2 : (Instr.lookup 139 (.map (some w.heap.size)) (sV (r1 :: r2)) false).run Tryz.prog W2 = .ok (.agg #[sV cw, nV cn]) W2 := hlk
    obtain ⟨ob2, hu0, hMu⟩ := updC HM2.out (r1 :: r2) (r1 :: r2, cn + yc)
    have hu : (Instr.mapUpdate 139 (.map (some w.heap.size)) (sV (r1 :: r2)) (.agg #[sV (r1 :: r2), .int .i64 ((cn + yc : Nat) : Int)])).run Tryz.prog W2 = .ok () (itSet W2 w.heap.size ob2) := hu0
    have hu2 : (Instr.mapUpdate 139 (.map (some w.heap.size)) (sV (r1 :: r2)) (.agg #[sV (r1 :: r2), .int .i64 ((cn : Int) + (yc : Int))])).run Tryz.prog W2 = .ok () (itSet W2 w.heap.size ob2) := by
     rw [← Int.natCast_add]; exact hu0
    have hst : stepW M ⟨yw, yf, ys, r1 :: r2, ya, yc, yv⟩ = kSet (r1 :: r2) (r1 :: r2, cn + yc) M := by
     unfold stepW
     simp only []
     rw [hc]
    rw [← hst] at hMu
    have HS := next (itSet W2 w.heap.size ob2) ((But.of Hb7.out).trans itSet_but) hMu
    have hf2 : (Instr.field 87 (.agg #[sV cw, nV cn]) 1).run Tryz.prog W2 = .ok (nV cn) W2 := hfc (cw, cn) W2
    clear hu hcn4 hyc hcame
    clear next hMu hst hu0 hc hcn hsum hlk hfc t3 t5 hc4
    go_upto_region 8 with fail
    go_wp2_with fail
    go_roundg g'
    case measure => omega
    case rel => exact ⟨_, _, rest', HS.out, by omega⟩
end Go.Proofs.YtjeadhfponlnnaaGreatDoor
set_option linter.unusedSimpArgs false
set_option linter.unusedVariables false
namespace Go.Proofs.YtjeadhfponlnnaaGreatDoor
open Go.RowKit Go.Pur Go.Clerk
open Go.Abs
set_option maxRecDepth 1000000
set_option maxHeartbeats 8000000
def cells1 (x : Vol) (w : Value) : List Value := [sV x.letter, w, nV x.lines, nV x.sent]
def cellsV : List Vol → List Value → List Value
 | x :: xs, w :: ws => cells1 x w ++ cellsV xs ws
 | _, _ => []
theorem cellsV_len : ∀ {xs : List Vol} {ws : List Value}, ws.length = xs.length → (cellsV xs ws).length = xs.length * 4
 | [], [], _ => rfl
 | x :: xs, w :: ws, h => by
  have := cellsV_len (xs := xs) (ws := ws) (by simpa using h)
  simp only [cellsV, cells1, List.cons_append, List.nil_append, List.length_cons, this]
  omega
theorem cellsV_get : ∀ {xs : List Vol} {ws : List Value} {i : Nat} {u : Value}, ws[i]? = some u → i < xs.length → (cellsV xs ws)[i * 4 + 1]? = some u
 | x :: xs, w :: ws, 0, u, h, _ => by simpa [cellsV, cells1] using h
 | x :: xs, w :: ws, i + 1, u, h, hi => by
  have := cellsV_get (xs := xs) (ws := ws) (i := i) (u := u) (by simpa using h) (by simpa using hi)
  rw [show (i + 1) * 4 + 1 = (i * 4 + 1) + 4 by omega]
  simp only [cellsV, cells1, List.cons_append, List.nil_append]
  simpa using this
theorem cellsV_set : ∀ {xs : List Vol} {ws : List Value} {i : Nat} {u : Value}, i < ws.length → i < xs.length → (cellsV xs ws).set (i * 4 + 1) u = cellsV xs (ws.set i u)
 | x :: xs, w :: ws, 0, u, _, _ => by simp [cellsV, cells1]
 | x :: xs, w :: ws, i + 1, u, h, hi => by
  have := cellsV_set (xs := xs) (ws := ws) (i := i) (u := u) (by simpa using h) (by simpa using hi)
  rw [show (i + 1) * 4 + 1 = (i * 4 + 1) + 4 by omega]
  simp only [cellsV, cells1, List.cons_append, List.nil_append, List.set_cons_succ]
  rw [this]
theorem volCells_of : ∀ {W : World} {xs : List Vol} {cs : List Value}, VolCells W xs cs → ∃ ws, ws.length = xs.length ∧ cs = cellsV xs ws ∧ ∀ (j : Nat) u x, ws[j]? = some u → xs[j]? = some x → TextsAt W u x.words := fun {W xs cs} h => by
 induction h with
 | nil => exact ⟨[], rfl, rfl, fun j u x h => by simp at h⟩
 | cons x w xs cs h1 _ ih =>
  obtain ⟨ws, a, rfl, c⟩ := ih
  refine ⟨w :: ws, by simp [a], rfl, fun j u y hj hy => ?_⟩
  cases j with
  | zero =>
   simp only [List.getElem?_cons_zero, Option.some.injEq] at hj hy
   subst hj; subst hy
   exact h1
  | succ j => exact c j u y (by simpa using hj) (by simpa using hy)
theorem row_set {W : World} {B e size n g cap : Nat} {xs : List Value} (h : W.ownsRow B e size (.slice (some ⟨g, 0, none⟩) n cap) n xs) {k : Nat} (hk : k < n * size) (u : Value) : (W.setCell ⟨g, k, none⟩ u).ownsRow B e size (.slice (some ⟨g, 0, none⟩) n cap) n (xs.set k u) := by
 obtain ⟨h1, ⟨h2, _⟩ | ⟨g', cap', cur, e1, h2, h3, h4, h5, h6, h7⟩⟩ := h
 ·cases h2
 ·cases e1
  refine ⟨by rw [List.length_set]; exact h1, .inr ⟨g, cap, cur.setIfInBounds k u, rfl, h2, setCell_block h3, h4, h5, by simpa using h6, ?_⟩⟩
  rw [Array.toList_setIfInBounds, List.take_set, h7]
theorem row_get {W : World} {B e size n g cap : Nat} {xs : List Value} (h : W.ownsRow B e size (.slice (some ⟨g, 0, none⟩) n cap) n xs) {k : Nat} (hk : k < n * size) : W.cell? ⟨g, k, none⟩ = xs[k]? ∧ W.frozen? ⟨g, k, none⟩ = false ∧ g < W.heap.size ∧ B ≤ g ∧ cellTy W g = some e := by
 obtain ⟨h1, ⟨h2, _⟩ | ⟨g', cap', cur, e1, h2, h3, h4, h5, h6, h7⟩⟩ := h
 ·cases h2
 ·cases e1
  refine ⟨?_, by simp [World.frozen?, h3], (Array.getElem?_eq_some_iff.1 h3).1, h2, cellTy_cells h3⟩
  rw [← h7, List.getElem?_take, if_pos hk, Array.getElem?_toList]
  simp [World.cell?, h3]
def VolsP (w : World) (l : List Vol) (e : Ending) (w' : World) : Prop := ∃ v ws, e = .returned v ∧ ws.length = l.length ∧ w'.ownsRow w.heap.size 76 4 v l.length (cellsV l ws) ∧ (∀ (j : Nat) u x, ws[j]? = some u → l[j]? = some x → w'.ownsRow w.heap.size 9 1 u x.words.length (x.words.map sV)) ∧ Below w.heap.size w w'
def V38 (w wb : World) (l : List Vol) (i g cap : Nat) (wx : World) : Prop := ∃ ws, ws.length = l.length ∧ wx.ownsRow w.heap.size 76 4 (.slice (some ⟨g, 0, none⟩) l.length cap) l.length (cellsV l ws) ∧ (∀ (j : Nat) u x, ws[j]? = some u → l[j]? = some x → TextsAt wx u x.words ∧ (j < i → wx.ownsRow w.heap.size 9 1 u x.words.length (x.words.map sV))) ∧ Below w.heap.size w wx
theorem oneCell_vols {W : World} {l : List Vol} {cs : List Value} (h : VolCells W l cs) : ∀ u ∈ cs, u.oneCell' = true := by
 induction h with
 | nil => intro u hu; cases hu
 | cons x w xs cs h1 _ ih =>
  obtain ⟨_, ⟨rfl, _⟩ | ⟨g, cap, cur, rfl, _⟩⟩ := h1
  all_goals
   intro u hu
   simp only [List.mem_cons] at hu
   rcases hu with rfl | rfl | rfl | rfl | hu
   ·rfl
   ·rfl
   ·rfl
   ·rfl
   ·exact ih u hu
theorem volumes_calls (o : Nat) (S : Off) (w : World) (hO : OffAt w o S) (hD : DeskOK S.now) : Calls Tryz.prog 38 #[ptrV o] w fun e w' => VolsP w S.now.vols e w' := by
 have mixed : Tryz.prog.follows .mixedOrders = true := by kernel_rfl
 have hol := hO.lt
 obtain ⟨now, pv, lv, ps, h1, hd, -, -, -, -⟩ := hO
 obtain ⟨me, ma, vv, h2, -, -, -, -, -, -, cs, hcs, hrow⟩ := hd
 obtain ⟨d, hde⟩ : ∃ d, S.now = d := ⟨_, rfl⟩
 rw [hde] at h2 hD hcs hrow ⊢
 clear hde
 have hvl : d.vols.length ≤ 26 := by have := hD.shut; omega
 have c0 := (off_cells h1).1
 obtain ⟨a0, a1, a2, -⟩ := desk_cells h2
 have HI := hidC (invalid_calls o now w c0)
 have HC := hidC (clone84 w 0 vv d.vols.length cs hrow (oneCell_vols hcs) (by omega))
 obtain ⟨ws0, hw0, rfl, hw1⟩ := volCells_of hcs
 have Hw1 := hidC hw1
 have HV := hidC hD.vol
 obtain ⟨l, hl⟩ : ∃ l, d.vols = l := ⟨_, rfl⟩
 rw [hl] at hw0 Hw1 HC HV hvl ⊢
 obtain ⟨N, hN⟩ : ∃ N, l.length = N := ⟨_, rfl⟩
 rw [hN] at HC hvl
 clear hrow hcs h1 h2 hw1 hD
 go_enter Tryz.func38, Tryz.ntmps38
 go_wp2_with (first | (go_at_call 49; refine HI.out.mono ?_; rintro e wa ⟨rfl, hwa⟩; subst wa) | (go_at_call 84; refine HC.out.mono ?_; rintro e wb ⟨v, rfl, hv, hbb⟩; obtain ⟨ga, gc, rfl⟩ := row_slice hv; have Hv := hidC hv; have Hbb := hidC hbb; clear hv hbb))
 go_loopg [4, 17] (N + 1) (fun gk s4 s17 wx => ∃ i : Nat, s17 = .int .i64 (i : Int) ∧ i ≤ N ∧ N < i + gk ∧ (N = 0 ∧ wx = wb ∨ ∃ g cap, ga = some ⟨g, 0, none⟩ ∧ gc = cap ∧ V38 w wb l i g cap wx))
 case atStart =>
  refine ⟨0, rfl, Nat.zero_le _, by omega, ?_⟩
  rcases Hv.out.2 with ⟨_, h0⟩ | ⟨g, cap, cur, e1, h2, h3⟩
  ·exact .inl ⟨h0, rfl⟩
  ·cases e1
   refine .inr ⟨g, gc, rfl, rfl, ws0, hw0, by rw [hN]; exact Hv.out, fun j u x hj hx => ⟨?_, fun h => absurd h (Nat.not_lt_zero _)⟩, Hbb.out⟩
   exact row_below (Hw1.out j u x hj hx) Hbb.out
 case round =>
  obtain ⟨i, rfl, hi, hg, hrel⟩ := hrel
  by_cases hlt : i < N
  ·obtain ⟨g', rfl⟩ : ∃ g', gk = g' + 1 := ⟨gk - 1, by omega⟩
   rcases hrel with ⟨h0, _⟩ | ⟨g, cap, rfl, rfl, ws, hwl, hrow, hws, hb⟩
   ·omega
   obtain ⟨u, hu⟩ : ∃ u, ws[i]? = some u := ⟨_, List.getElem?_eq_getElem (by omega)⟩
   obtain ⟨x, hx⟩ : ∃ x, l[i]? = some x := ⟨_, List.getElem?_eq_getElem (by omega)⟩
   have hi1 : (0 : Int) ≤ (i : Int) := by omega
   have hi2 : (i : Int) < (N : Int) := by omega
   obtain ⟨k1, k2, k3, k4, k5⟩ := row_get hrow (k := i * 4 + 1) (by omega)
   rw [cellsV_get hu (by omega)] at k1
   obtain ⟨tu, -⟩ := hws i u x hu hx
   have hxl := (HV.out x (List.mem_of_getElem? hx)).words
   have HCl := hidC (clone72 wr u x.words tu (by omega))
   have Hrow := hidC hrow
   have Hws := hidC hws
   have Hb := hidC hb
   have Hu := hidC hu
   have Hx := hidC hx
   have HK := hidC (And.intro k4 k5)
   clear hrow hws hb hu hx tu k4 k5
   go_wp2_with (go_at_call 72; refine HCl.out.mono ?_; rintro e wz ⟨v, rfl, hv, hbz⟩; obtain ⟨va, vc, rfl⟩ := row_slice hv; have Hv2 := hidC hv; have Hbz := hidC hbz; have z1 := (hbz.frozen (p := ⟨g, i * 4 + 1, none⟩) k3).trans k2; have z2 := Nat.lt_of_lt_of_le k3 hbz.size; have z3 := (hbz.cell (p := ⟨g, i * 4 + 1, none⟩) k3).trans k1; clear hv hbz)
   go_roundg g'
   case measure => omega
   case rel =>
    have tyg : cellTy wz g = some 76 := (cellTy_of (Hbz.out.block g k3)).trans HK.out.2
    refine ⟨i + 1, by simp, by omega, by omega, .inr ⟨g, gc, rfl, rfl, ws.set i (.slice va x.words.length vc), by rw [List.length_set]; exact hwl, ?_, fun j u' x' hj hx' => ?_, ?_⟩⟩
    ·rw [← cellsV_set (by omega) (by omega)]
     exact row_set (row_below Hrow.out Hbz.out) (by omega) _
    ·by_cases hij : i = j
     ·subst hij
      rw [List.getElem?_set_self (by omega)] at hj
      cases hj
      have : x' = x := by rw [Hx.out] at hx'; exact (Option.some.inj hx').symm
      subst this
      have hr := row_mono (row_cell (a := ⟨g, i * 4 + 1, none⟩) (x := .slice va x'.words.length vc) Hv2.out tyg (by decide)) Hb.out.size
      exact ⟨row_mono hr (Nat.zero_le _), fun _ => hr⟩
     ·rw [List.getElem?_set_ne hij] at hj
      obtain ⟨t1, t2⟩ := Hws.out j u' x' hj hx'
      refine ⟨row_cell (row_below t1 Hbz.out) tyg (by decide), fun hj2 => row_cell (row_below (t2 (by omega)) Hbz.out) tyg (by decide)⟩
    ·exact (Hb.out.trans (Hbz.out.mono Hb.out.size)).setCell (by show w.heap.size ≤ g; exact HK.out.1) _
  ·obtain rfl : i = N := by omega
   have Hrel := hidC hrel
   clear hrel
   go_wp2_with fail
   go_ret
   rcases Hrel.out with ⟨h0, rfl⟩ | ⟨g, cap, rfl, rfl, ws, hwl, hrow, hws, hb⟩
   ·have hl0 : l = [] := List.eq_nil_of_length_eq_zero (by omega)
    have hw0' : ws0 = [] := List.eq_nil_of_length_eq_zero (by omega)
    subst hl0; subst hw0'
    exact ⟨_, [], rfl, rfl, by simpa [h0] using Hv.out, fun j u x h => by simp at h, Hbb.out⟩
   ·refine ⟨_, ws, rfl, hwl, by rw [hN] at hrow ⊢; exact hrow, fun j u x hj hx => ?_, hb⟩
    have : j < l.length := (List.getElem?_eq_some_iff.1 hx).1
    exact (hws j u x hj hx).2 (by omega)
end Go.Proofs.YtjeadhfponlnnaaGreatDoor
set_option linter.unusedSimpArgs false
set_option linter.unusedVariables false
namespace Go.Proofs.YtjeadhfponlnnaaGreatDoor
open Go.RowKit Go.Pur Go.Clerk
open Go.Abs
theorem flat_get {α β : Type} {f : α → List β} {k : Nat} (hf : ∀ a, (f a).length = k) : ∀ {l : List α} {i : Nat} {a : α} {j : Nat}, l[i]? = some a → j < k → (l.flatMap f)[i * k + j]? = (f a)[j]?
 | [], i, a, j, h, _ => by cases h
 | x :: l, 0, a, j, h, hj => by
  cases h
  rw [List.flatMap_cons, Nat.zero_mul, Nat.zero_add, List.getElem?_append_left (by rw [hf]; exact hj)]
 | x :: l, i + 1, a, j, h, hj => by
  have ih := flat_get hf (l := l) (i := i) (a := a) (j := j) h hj
  rw [List.flatMap_cons, List.getElem?_append_right (by rw [hf]; rw [Nat.add_mul]; omega), hf]
  rw [← ih]
  congr 1
  rw [Nat.add_mul]
  omega
theorem flat_at {α : Type} {f : α → List Value} {k : Nat} (hf : ∀ a, (f a).length = k) {W : World} {B t g cap : Nat} {l : List α} (h : W.ownsRow B t k (.slice (some ⟨g, 0, none⟩) l.length cap) l.length (l.flatMap f)) {i : Nat} {a : α} (ha : l[i]? = some a) : W.rangeAt g (i * k) (f a) := fun j u hj => by
 have hj2 : j < k := by rw [← hf a]; exact (List.getElem?_eq_some_iff.1 hj).1
 have hi : i < l.length := (List.getElem?_eq_some_iff.1 ha).1
 have hk : i * k + j < l.length * k := by
  have : (i + 1) * k ≤ l.length * k := Nat.mul_le_mul_right k hi
  rw [Nat.add_mul] at this
  omega
 rw [(row_get h hk).1, flat_get hf ha hj2]
 exact hj
theorem ent_at {W : World} {B g cap : Nat} {l : List Ent} (h : W.ownsRow B 79 7 (.slice (some ⟨g, 0, none⟩) l.length cap) l.length (l.flatMap cellsE)) {i : Nat} {a : Ent} (ha : l[i]? = some a) : W.rangeAt g (i * 7) [sV a.word, sV a.form, sV a.see, sV a.writer, nV a.asked, nV a.came, nV a.vol] := flat_at (f := cellsE) (fun _ => rfl) h ha
theorem acc_at {W : World} {B g cap : Nat} {l : List Acc} (h : W.ownsRow B 46 4 (.slice (some ⟨g, 0, none⟩) l.length cap) l.length (l.flatMap cellsA)) {i : Nat} {a : Acc} (ha : l[i]? = some a) : W.rangeAt g (i * 4) [sV a.who, nV a.pence, nV a.vols, .bool a.stop] := flat_at (f := cellsA) (fun _ => rfl) h ha
theorem range_but {W W' : World} {X : Nat → Prop} {n g o : Nat} {cs : List Value} (h : W.rangeAt g o cs) (hb : But X n W W') (hg : g < n) (hx : ¬ X g) : W'.rangeAt g o cs := fun j u hj => by
 have := h j u hj
 unfold World.cell? at this ⊢
 rw [hb.block g hg hx]
 exact this
theorem updT {W : World} {m : Nat} {l : List (Tx × Tx)} (h : MapAt W m sV l) (k x : Tx) : ∃ o, (Instr.mapUpdate 83 (.map (some m)) (sV k) (sV x)).run Tryz.prog W = .ok () (itSet W m o) ∧ MapAt (itSet W m o) m sV (kSet k x l) :=
 h.upd (P := Tryz.prog) (t := 83) (kt := 9) (et := 9) (by kernel_rfl) Tryz.underlying9 k x
theorem lookT {W : World} {m : Nat} {l : List (Tx × Tx)} (h : MapAt W m sV l) (k : Tx) : (Instr.lookup 83 (.map (some m)) (sV k) true).run Tryz.prog W = .ok (.tuple #[sV ((kGet k l).getD []), .bool (kGet k l).isSome]) W :=
 h.look (P := Tryz.prog) (t := 83) (kt := 9) (et := 9) (d := []) (by kernel_rfl) Tryz.underlying9 (by kernel_rfl) (fun _ => rfl) k true
theorem lookT1 {W : World} {m : Nat} {l : List (Tx × Tx)} (h : MapAt W m sV l) (k : Tx) : (Instr.lookup 83 (.map (some m)) (sV k) false).run Tryz.prog W = .ok (sV ((kGet k l).getD [])) W :=
 h.look (P := Tryz.prog) (t := 83) (kt := 9) (et := 9) (d := []) (by kernel_rfl) Tryz.underlying9 (by kernel_rfl) (fun _ => rfl) k false
end Go.Proofs.YtjeadhfponlnnaaGreatDoor

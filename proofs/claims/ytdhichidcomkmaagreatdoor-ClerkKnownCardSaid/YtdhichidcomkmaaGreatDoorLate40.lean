/-
  Late.
  Conditions: none; lemmas.
-/
import Derived.Test.YtdhichidcomkmaaGreatDoorVals14
set_option linter.unusedSimpArgs false
set_option linter.unusedVariables false
namespace Go.Proofs.YtdhichidcomkmaaGreatDoor
open Go.RowKit Go.Pur Go.Clerk
open Go.Abs
set_option maxRecDepth 1000000
set_option maxHeartbeats 8000000
def isLate (d : Desk) (e : Ent) : Bool := !e.writer.isEmpty && decide (e.came = 0) && d.shut e.word
def selL (d : Desk) (x : List (Tx × Ent)) : List Tx := (x.filter fun y => isLate d y.2).map (·.1)
theorem selL_step {d : Desk} {rest rest' : List (Tx × Ent)} {k : Tx} {e : Ent} (h : rest.Perm ((k, e) :: rest')) : (selL d rest).Perm ((if isLate d e then [k] else []) ++ selL d rest') := by
 have h2 := (h.filter (fun y => isLate d y.2)).map (·.1)
 unfold selL
 refine h2.trans ?_
 rw [List.filter_cons]
 by_cases hc : isLate d e = true
 ·simp [hc]
 ·simp [hc]
theorem selL_entL {d : Desk} {l : List Ent} : selL d (entL l) = (l.filter (isLate d)).map (·.word) := by
 unfold selL entL
 rw [List.filter_map, List.map_map]
 rfl
def L40 (w : World) (r me : Nat) (d : Desk) (out : List Tx) (rest : List (Tx × Ent)) (v : Value) (wx : World) : Prop :=
 IterAt wx r me entV (entL d.ents) rest ∧ wx.ownsRow (r + 1) 9 1 v out.length (out.map sV) ∧ Below r w wx ∧ (out ++ selL d rest).Perm (selL d (entL d.ents)) ∧ out.length + rest.length ≤ d.ents.length ∧ ∀ x ∈ rest, x ∈ entL d.ents
theorem L40.skip {w : World} {r me : Nat} {d : Desk} {out : List Tx} {rest rest' : List (Tx × Ent)} {v : Value} {W1 W2 : World} {k : Tx} {e : Ent} (hit : IterAt W1 r me entV (entL d.ents) rest') (hown : W1.ownsRow (r + 1) 9 1 v out.length (out.map sV)) (hb : Below r w W1)
  (hp : (out ++ selL d rest).Perm (selL d (entL d.ents))) (hlen : out.length + rest.length ≤ d.ents.length) (hin : ∀ x ∈ rest, x ∈ entL d.ents) (hpm : rest.Perm ((k, e) :: rest')) (hl : isLate d e = false) (hW : Below W1.heap.size W1 W2) (hme : me < W1.heap.size) : L40 w r me d out rest' v W2 := by
 have hr := hit.lt
 refine ⟨hit.below hW hr hme, row_below hown hW, hb.trans (hW.mono (by omega)), ?_, by have := hpm.length_eq; simp at this; omega, fun x hx => hin x (hpm.mem_iff.2 (List.mem_cons_of_mem _ hx))⟩
 have h1 := selL_step (d := d) hpm
 rw [hl] at h1
 exact (h1.append_left out).symm.trans hp
theorem late_calls (o : Nat) (S : Off) (w : World) (hO : OffAt w o S) (hD : DeskOK S.now) : Calls Tryz.prog 40 #[ptrV o] w fun e w' => TxP w S.now.late e w' := by
 have mixed : Tryz.prog.follows .mixedOrders = true := by kernel_rfl
 have hol := hO.lt
 obtain ⟨now, pv, lv, ps, h1, hd, -, -, -, -⟩ := hO
 obtain ⟨me, ma, vv, h2, -, -, -, -, h6, -, -⟩ := hd
 obtain ⟨d, hde⟩ : ∃ d, S.now = d := ⟨_, rfl⟩
 rw [hde] at h2 h6 hD ⊢
 clear hde
 have hnl : now < w.heap.size := (Array.getElem?_eq_some_iff.1 h2).1
 have hme : me < w.heap.size := h6.lt
 have c0 := (off_cells h1).1
 have a1 := (desk_cells h2).1
 have HI := hidC (invalid_calls o now w c0)
 have HSh : Hid (∀ W, Below w.heap.size w W → ∀ k, k ≠ [] → Calls Tryz.prog 86 #[ptrV now, sV k] W fun e W' => e = .returned (.bool (d.shut k)) ∧ W' = W.drew) :=
  hidC fun W hW k hk => shut_calls now k d W me ma vv ((hW.block now hnl).trans h2) hk
 obtain ⟨ob, hrg, hit⟩ := range_start (P := Tryz.prog) h6 Tryz.underlying95
 obtain ⟨w1, hw1⟩ : ∃ x, w.alloc ob = x := ⟨_, rfl⟩
 have hB1 : Below w.heap.size w w1 := by rw [← hw1]; exact (Below.refl _ _).alloc (Nat.le_refl _) _
 rw [hw1] at hrg hit
 have H1 := hidC h1
 have HC : Hid (L40 w w.heap.size me d [] (entL d.ents) (.slice none 0 0) w1) := hidC ⟨hit, World.ownsRow_nil _ _ _ _, hB1, List.Perm.refl _, by simp [entL], fun x hx => hx⟩
 have hfew := hD.few
 have HD := hidC hD
 clear h1 h2 h6 hit hw1 hB1 hD
 go_enter Tryz.func40, Tryz.ntmps40
 go_wp2_with (go_at_call 49; refine HI.out.mono ?_; rintro e wa ⟨rfl, hwa⟩; subst wa)
 clear c0 a1
 go_loopg [3, 4, 5] (d.ents.length + 1) (fun gk s3 s4 s5 wx => ∃ out rest, L40 w w.heap.size me d out rest s3 wx ∧ rest.length < gk)
 case atStart => exact ⟨[], _, HC.out, by simp [entL]⟩
 case round =>
  obtain ⟨out, rest, hC, hgk⟩ := hrel
  obtain ⟨g', rfl⟩ : ∃ g', gk = g' + 1 := ⟨gk - 1, by omega⟩
  obtain ⟨q1, q2, q3, q4, q5, q6⟩ := hC
  have hrm : w.heap.size ≠ me := by omega
  rcases next_step (P := Tryz.prog) q1 hrm 0 with ⟨rfl, hrun⟩ | ⟨k, ev, rest', W1, hpm, hrun, hit1, hT1, hent⟩
  ·have hperm : out.Perm (selL d (entL d.ents)) := by simpa [selL] using q4
   have hlate : out.mergeSort leT = d.late := by
    rw [sort_perm hperm, selL_entL]
    rfl
   have Q2 := hidC q2
   have Q3 := hidC q3
   have Q5 := hidC q5
   have HLt := hidC hlate
   clear q1 q2 q3 q4 q6 hperm hlate
   have hol5 : out.length ≤ 1000 := by have := Q5.out; omega
   rcases Q2.out.2 with ⟨rfl, hz⟩ | ⟨gb, cap, cur, rfl, hbase, -⟩
   ·have hz' : out = [] := List.eq_nil_of_length_eq_zero hz
    subst hz'
    go_wp2_with (go_at_call 44; refine (AnyM.slices_Sort_string_none Tryz.sort44 none 0 _).mono ?_; rintro e wz ⟨rfl, rfl⟩)
    go_ret
    rw [← HLt.out]
    exact ⟨_, rfl, by rw [List.mergeSort_nil]; exact World.ownsRow_nil _ _ _ _, Q3.out⟩
   ·have HSo := hidC (sort_calls wr _ gb cap out Q2.out hol5)
    go_wp2_with (go_at_call 44; refine HSo.out.mono ?_; rintro e wz ⟨rfl, hz, hgz⟩)
    go_ret
    rw [← HLt.out]
    refine ⟨_, rfl, ?_, Q3.out.grown hgz (by have := Q3.out.size; omega) (fun j hj => by cases hj; omega)⟩
    have hl2 : (out.mergeSort leT).length = out.length := List.length_mergeSort out
    unfold TextsAt
    rw [hl2]
    exact row_mono hz (Nat.zero_le _)
  ·have hkm : (k, ev) ∈ entL d.ents := q6 _ (hpm.mem_iff.2 List.mem_cons_self)
   obtain ⟨y, hy, e0⟩ := List.mem_map.1 hkm
   obtain ⟨e1, e2⟩ := Prod.mk.inj e0
   subst e2; subst e1
   have hne : y.word ≠ [] := (HD.out.ent y hy).word.spec.1
   have hown1 : W1.ownsRow (w.heap.size + 1) 9 1 u3 out.length (out.map sV) := own_eqb q2 fun k h1 _ => hT1.block k (by omega)
   have hB1 : Below w.heap.size w W1 := hT1.below q3 (Nat.le_refl _)
   have hr1 : w.heap.size < W1.heap.size := hit1.lt
   have Hit1 := hidC hit1
   have Hown1 := hidC hown1
   have HB1 := hidC hB1
   have Q4 := hidC q4
   have Q6 := hidC q6
   have Hpm := hidC hpm
   have Hne := hidC hne
   have hlen : rest.length = rest'.length + 1 := by rw [hpm.length_eq]; rfl
   clear q1 q2 q3 q4 q6 hT1 hpm hit1 hown1 hB1 hkm e0 hne
   obtain ⟨W2, hW2⟩ : ∃ x, W1.alloc (.cells #[sV y.word, sV y.form, sV y.see, sV y.writer, nV y.asked, nV y.came, nV y.vol] 79) = x := ⟨_, rfl⟩
   have hb7 : Below W1.heap.size W1 W2 := by rw [← hW2]; exact (Below.refl _ _).alloc (Nat.le_refl _) _
   have hs2 : W2.heap.size = W1.heap.size + 1 := by rw [← hW2]; simp
   have hbox : W2.heap[W1.heap.size]? = some (.cells #[sV y.word, sV y.form, sV y.see, sV y.writer, nV y.asked, nV y.came, nV y.vol] 79 (0, 0)) := by rw [← hW2]; exact heap_alloc_new _ _
   have hB2 : Below w.heap.size w W2 := HB1.out.trans (hb7.mono (by omega))
   obtain ⟨t0, t1, t2, t3, t4, t5, t6⟩ := box7 hbox
   have co := (off_cells ((hB2.block o hol).trans H1.out)).1
   have skip := fun (hl : isLate d y = false) (W3 : World) (hW3 : Below W2.heap.size W2 W3) => hidC (L40.skip (W2 := W3) Hit1.out Hown1.out HB1.out Q4.out q5 Q6.out Hpm.out hl (hb7.trans (hW3.mono (by omega))) (by omega))
   have HSh2 := hidC (HSh.out W2 hB2 y.word Hne.out)
   have Hb7 := hidC hb7
   have HB2 := hidC hB2
   clear hb7 hbox hB2 t0 t1 t2 t4 t6
   obtain ⟨yw, yf, ys, yr, ya, yc, yv⟩ := y
   have hW2' : W1.alloc (.cells #[sV yw, sV yf, sV ys, sV yr, nV ya, nV yc, nV yv] 79) = W2 := hW2
   clear hW2
   have hs2' := hs2
   cases yr with
   | nil =>
    have HS := skip rfl W2 (Below.refl _ _)
    clear skip
    go_wp2
    go_roundg g'
    case measure => omega
    case rel => exact ⟨out, rest', HS.out, by omega⟩
   | cons r1 r2 =>
    by_cases hc : yc = 0
    ·have hci : ((yc : Int) == 0) = true := by rw [hc]; rfl
     cases hsh : d.shut yw with
     | false =>
      rw [hsh] at HSh2
      have HS := skip (by unfold isLate; show (_ && d.shut yw) = false; rw [hsh, Bool.and_false]) W2.drew ((Below.refl _ _).drew)
      clear skip hsh hc
      go_wp2_with (go_at_call 86; refine HSh2.out.mono ?_; rintro e wz ⟨rfl, rfl⟩)
      go_roundg g'
      case measure => omega
      case rel => exact ⟨out, rest', HS.out, by omega⟩
     | true =>
      rw [hsh] at HSh2
      have hlt : isLate d ⟨yw, yf, ys, r1 :: r2, ya, yc, yv⟩ = true := by unfold isLate; show (_ && decide (yc = 0) && d.shut yw) = true; rw [hsh, decide_eq_true hc]; rfl
      have Hlt := hidC hlt
      clear skip hsh hlt hc
      obtain ⟨i0, hi0, hz0, hz1', hz2⟩ := info_parts (show (Tryz.prog.info? 9).map (fun i => (i.zero, i.size, i.bytes)) = some (some (.string ⟨#[]⟩), 1, 16) by kernel_rfl)
      have Hi0 := hidC hi0
      have hb8 : Below W1.heap.size W1 ((W2.alloc (.cells #[sV yw] 9)).drew) := (Hb7.out.alloc (by omega) _).drew
      have Hb8 := hidC hb8
      have Hown2 : Hid (((W2.alloc (.cells #[sV yw] 9)).drew).ownsRow (w.heap.size + 1) 9 1 u3 out.length (out.map sV)) := hidC (row_below Hown1.out hb8)
      have hcn : ∀ (j : Nat) v, [sV yw][j]? = some v → ((W2.alloc (.cells #[sV yw] 9)).drew).cell? ((⟨W1.heap.size + 1, 0, none⟩ : Addr).add j) = some v := by rw [← hs2]; exact cell_one_new W2 (sV yw) 9
      have Hcn := hidC hcn
      clear hb8 hcn
      clear hi0
      go_wp2_with (first | (go_at_call 86; refine HSh2.out.mono ?_; rintro e wz ⟨rfl, rfl⟩) | (at_builtin; refine wpList_append_own _ rfl _ _ 22 rfl (w.heap.size + 1) 9 i0 (.string ⟨#[]⟩) 1 16 Tryz.underlying22 Hi0.out hz0 hz1' hz2 rfl (by decide) u3 _ _ rfl Hown2.out ⟨W1.heap.size + 1, 0, none⟩ 1 1 [sV yw] rfl rfl ?c1 ?c2 ?c3 ?c4 ?c5 ?_))
      case c1 => exact Hcn.out
      case c2 => exact fun u hu => by rw [List.mem_singleton.1 hu]; rfl
      case c3 => unfold maxLen; omega
      case c4 => omega
      case c5 => simp; omega
      rintro v4 w4 hown4 hg4 -
      have hB4 : Below w.heap.size w w4 := (HB1.out.trans (Hb8.out.mono (by omega))).grown hg4 (by have := Hb8.out.size; omega) (fun k hk => by have := Hown2.out.lt k hk; omega)
      have hit4 : IterAt w4 w.heap.size me entV (entL d.ents) rest' := by
       have h0 := hg4.block
       have hlt2 := fun k hk => (Hown2.out.lt k hk).1
       have hz8 := Hb8.out.size
       refine (Hit1.out.below Hb8.out hr1 (by omega)).eqb ?_ ?_
       ·exact h0 me (by omega) (fun e => by have := hlt2 me e.symm; omega)
       ·exact h0 w.heap.size (by omega) (fun e => by have := hlt2 _ e.symm; omega)
      have HR : Hid (L40 w w.heap.size me d (out ++ [yw]) rest' v4 w4) := by
       refine hidC ⟨hit4, ?_, hB4, ?_, by simp; omega, fun x hx => Q6.out x (Hpm.out.mem_iff.2 (List.mem_cons_of_mem _ hx))⟩
       ·rw [List.length_append, List.map_append]
        exact hown4
       ·have h1 := selL_step (d := d) Hpm.out
        rw [Hlt.out] at h1
        have h2 := (h1.append_left out).symm.trans Q4.out
        rw [List.append_assoc]
        exact h2
      clear hown4 hit4 hB4 hg4
      go_wp2_with fail
      go_roundg g'
      case measure => omega
      case rel => exact ⟨out ++ [yw], rest', HR.out, by omega⟩
    ·have hci : ((yc : Int) == 0) = false := beq_eq_false_iff_ne.2 (by omega)
     have HS := skip (by unfold isLate; show (_ && decide (yc = 0) && _) = false; rw [decide_eq_false hc, Bool.and_false, Bool.false_and]) W2 (Below.refl _ _)
     clear skip
     go_wp2
     go_roundg g'
     case measure => omega
     case rel => exact ⟨out, rest', HS.out, by omega⟩
end Go.Proofs.YtdhichidcomkmaaGreatDoor

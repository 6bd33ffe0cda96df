/-
  The headwords to which one comes from one: a range over a map.
  Conditions: none; lemmas.
-/
import Derived.Test.YtjeadhfponlnnaaGreatDoorDo1
import Derived.Maps.AppendAt
import Derived.Lib.OwnBridge
set_option linter.unusedSimpArgs false
set_option linter.unusedVariables false
namespace Go.Proofs.YtjeadhfponlnnaaGreatDoor
open Go.RowKit Go.Pur Go.Clerk
open Go.Abs
set_option maxRecDepth 1000000
set_option maxHeartbeats 8000000
theorem lookE1 {W : World} {me : Nat} {l : List Ent} (h : MapAt W me entV (entL l)) (w : Tx) : (Instr.lookup 95 (.map (some me)) (sV w) false).run Tryz.prog W = .ok (entV ((getE w l).getD ent0)) W := by
 have := h.look (P := Tryz.prog) (t := 95) (kt := 9) (et := 79) (d := ent0) (by kernel_rfl) Tryz.underlying9 (by kernel_rfl) (fun _ => rfl) w false
 rw [getE_kv] at this
 exact this
theorem see_get {w : Tx} {l : List Ent} : ((getE w l).getD ent0).see = seeOf w l := by
 unfold seeOf
 cases getE w l <;> rfl
def C59 (w0 : World) (me : Nat) (l : List Ent) (T out : List Tx) (wk : Tx) (rest : List (Tx × Ent)) (v : Value) (wx : World) : Prop :=
 IterAt wx w0.heap.size me entV (entL l) rest ∧ wx.ownsRow (w0.heap.size + 1) 9 1 v out.length (out.map sV) ∧ Below w0.heap.size w0 wx ∧ out ++ wayN l rest.length wk = T ∧ out.length + rest.length = l.length
def TxP (w : World) (l : List Tx) (e : Ending) (w' : World) : Prop := ∃ v, e = .returned v ∧ TextsAt w' v l ∧ Below w.heap.size w w'
theorem textsAt_of {W : World} {B : Nat} {v : Value} {l : List Tx} (h : W.ownsRow B 9 1 v l.length (l.map sV)) : TextsAt W v l := by
 refine ⟨h.1, h.2.imp (fun h => h) ?_⟩
 rintro ⟨g, cap, cur, h1, h2, h3⟩
 exact ⟨g, cap, cur, h1, Nat.zero_le _, h3⟩
theorem field_see (e : Ent) (W : World) : (Instr.field 79 (entV e) 2).run Tryz.prog W = .ok (sV e.see) W := by kernel_rfl
theorem own_eqb {W W' : World} {B e size n : Nat} {v : Value} {xs : List Value} (h : W.ownsRow B e size v n xs) (hb : ∀ k, B ≤ k → k < W.heap.size → W'.heap[k]? = W.heap[k]?) : W'.ownsRow B e size v n xs := by
 refine ⟨h.1, h.2.imp (fun h => h) ?_⟩
 rintro ⟨g, cap, cur, rfl, h2, h3, h4⟩
 exact ⟨g, cap, cur, rfl, h2, (hb g h2 (Array.getElem?_eq_some_iff.1 h3).1).trans h3, h4⟩
theorem way_calls (p : Nat) (wd : Tx) (d : Desk) (w : World) (n : Nat) (hd : DeskAt w n p d) (hl : d.ents.length ≤ 1000) : Calls Tryz.prog 59 #[ptrV p, sV wd] w fun e w' => TxP w (d.way wd) e w' := by
 have mixed : Tryz.prog.follows .mixedOrders = true := by kernel_rfl
 obtain ⟨me, ma, vv, h1, h2, h3, h4, h5, h6, h7, h8⟩ := hd
 have hp : p < w.heap.size := (Array.getElem?_eq_some_iff.1 h1).1
 have hme : me < w.heap.size := h6.lt
 obtain ⟨e0, e1, e2, e3⟩ := desk_cells h1
 obtain ⟨o, hrg, hit⟩ := range_start (P := Tryz.prog) h6 Tryz.underlying95
 obtain ⟨l, hle⟩ : ∃ l, d.ents = l := ⟨_, rfl⟩
 obtain ⟨T, hT⟩ : ∃ T, d.way wd = T := ⟨_, rfl⟩
 have hT' : wayN l l.length wd = T := by rw [← hT, ← hle]; rfl
 rw [hle] at h6 hit hl
 rw [hT]
 have hC : C59 w me l T [] wd (entL l) (.slice none 0 0) (w.alloc o) := ⟨hit, World.ownsRow_nil _ _ _ _, (Below.refl _ _).alloc (Nat.le_refl _) _, by simpa [entL] using hT', by simp [entL]⟩
 have H1 := hidC h1
 have H6 := hidC h6
 have HC := hidC hC
 have HTT := hidC hT'
 clear h1 h6 h7 h8 hC hit hT hT' hle e1 e2 e3
 obtain ⟨w1, hw1⟩ : ∃ w1, w.alloc o = w1 := ⟨_, rfl⟩
 rw [hw1] at hrg HC
 have Hw1 := hidC hw1
 clear hw1
 go_enter Tryz.func59, Tryz.ntmps59
 go_wp2_with fail
 go_loopg [1, 5] (l.length + 1) (fun gk s1 s5 wx => ∃ (out : List Tx) (wk : Tx) (rest : List (Tx × Ent)), s1 = sV wk ∧ C59 w me l T out wk rest s5 wx ∧ rest.length < gk)
 case atStart => exact ⟨[], wd, entL l, rfl, HC.out, by simp [entL]⟩
 case round =>
  obtain ⟨out, wk, rest, rfl, hC, hg⟩ := hrel
  obtain ⟨g', rfl⟩ : ∃ g', gk = g' + 1 := ⟨gk - 1, by omega⟩
  obtain ⟨q1, q2, q3, q4, q5⟩ := hC
  have hne : w.heap.size ≠ me := by omega
  rcases next_step (P := Tryz.prog) q1 hne 0 with ⟨rfl, hrun⟩ | ⟨k, ev, rest', W1, hpm, hrun, hit1, hT1, -⟩
  ·have hout : out = T := by simpa [wayN] using q4
   subst hout
   have Q2 := hidC q2
   have Q3 := hidC q3
   clear q1 q2 q3 q4
   go_wp2
   go_ret
   exact ⟨_, rfl, textsAt_of Q2.out, Q3.out⟩
  ·have hB1 : Below w.heap.size w W1 := hT1.below q3 (Nat.le_refl _)
   have hown1 : W1.ownsRow (w.heap.size + 1) 9 1 u5 out.length (out.map sV) := own_eqb q2 fun k h1 _ => hT1.block k (by omega)
   have hlen : rest.length = rest'.length + 1 := by rw [hpm.length_eq]; rfl
   have hway : wayN l rest.length wk = match seeOf wk l with
     | [] => [wk]
     | s => wk :: wayN l rest'.length s := by rw [hlen]; rfl
   rw [hway] at q4
   obtain ⟨i0, hi0, hz0, hz1', hz2⟩ := info_parts (show (Tryz.prog.info? 9).map (fun i => (i.zero, i.size, i.bytes)) = some (some (.string ⟨#[]⟩), 1, 16) by kernel_rfl)
   have Hi0 := hidC hi0
   have Hown := hidC hown1
   have HB1 := hidC hB1
   have Hit1 := hidC hit1
   have Q4 := hidC q4
   clear q1 q2 q3 q4 hT1 hown1 hB1 hit1 hpm hway
   have hs1 : w.heap.size < W1.heap.size := Hit1.out.lt
   go_wp2_with (at_builtin; refine wpList_append_own _ rfl _ _ 22 rfl (w.heap.size + 1) 9 i0 (.string ⟨#[]⟩) 1 16 Tryz.underlying22 Hi0.out hz0 hz1' hz2 rfl (by decide) u5 _ _ rfl (Hown.out.alloc _) ⟨W1.heap.size, 0, none⟩ 1 1 [sV wk] rfl rfl ?c1 ?c2 ?c3 ?c4 ?c5 ?_)
   case c1 => exact cell_one_new _ _ _
   case c2 => exact fun u hu => by rw [List.mem_singleton.1 hu]; rfl
   case c3 => unfold maxLen; omega
   case c4 => omega
   case c5 => simp; omega
   rintro v4 w4 hown4 hg4 -
   have hB4 : Below w.heap.size w w4 := (HB1.out.alloc (by omega) _).grown hg4 (by simp; omega) (fun k hk => by have := (Hown.out.alloc (.cells #[sV wk] 9)).lt k hk; omega)
   have hit4 : IterAt w4 w.heap.size me entV (entL l) rest' := by
    have h0 := hg4.block
    refine Hit1.out.eqb ?_ ?_
    ·rw [h0 me (by simp; omega) (fun e => by have := (Hown.out.alloc (.cells #[sV wk] 9)).lt me e.symm; omega), heap_alloc_old _ _ (by omega)]
    ·rw [h0 w.heap.size (by simp; omega) (fun e => by have := (Hown.out.alloc (.cells #[sV wk] 9)).lt _ e.symm; omega), heap_alloc_old _ _ hs1]
   have e0' := (desk_cells ((hB4.block p hp).trans H1.out)).1
   have hlk := lookE1 (H6.out.below hB4 hme) wk
   obtain ⟨e1, he1⟩ : ∃ e1, (getE wk l).getD ent0 = e1 := ⟨_, rfl⟩
   have hsee : e1.see = seeOf wk l := by rw [← he1]; exact see_get
   rw [he1] at hlk
   rw [← hsee] at Q4
   have hfs := field_see e1 w4
   obtain ⟨ew, ef, es, er, ea, ec, ev0⟩ := e1
   have Hown4 := hidC hown4
   have HB4 := hidC hB4
   have Hit4 := hidC hit4
   clear hown4 hB4 hit4 hg4 hsee he1 Hown HB1 Hit1
   cases es with
   | nil =>
    have hout : out ++ [wk] = T := Q4.out
    have HT := hidC hout
    clear hout Q4
    go_wp2
    go_ret
    refine ⟨_, rfl, ?_, HB4.out⟩
    rw [← HT.out]
    refine textsAt_of (B := w.heap.size + 1) ?_
    rw [List.length_append, List.map_append]
    exact Hown4.out
   | cons c1 l1 =>
    have hout : out ++ (wk :: wayN l rest'.length (c1 :: l1)) = T := Q4.out
    have HT := hidC hout
    clear hout Q4
    go_wp2
    go_roundg g'
    case measure => omega
    case rel =>
     refine ⟨out ++ [wk], c1 :: l1, rest', rfl, ⟨Hit4.out, ?_, HB4.out, ?_, ?_⟩, by omega⟩
     ·rw [List.length_append, List.map_append]
      exact Hown4.out
     ·rw [List.append_assoc]
      exact HT.out
     ·rw [List.length_append]
      simp only [List.length_cons, List.length_nil]
      omega
end Go.Proofs.YtjeadhfponlnnaaGreatDoor

/-
  Orders of headwords: referring.
  Conditions: none; lemmas.
-/
import Derived.Test.YtjeadhfponlnnaaGreatDoorWay59
import Derived.Test.YtjeadhfponlnnaaGreatDoorShelf14
set_option linter.unusedSimpArgs false
set_option linter.unusedVariables false
namespace Go.Proofs.YtjeadhfponlnnaaGreatDoor
open Go.RowKit Go.Pur Go.Clerk
open Go.Abs
set_option maxRecDepth 1000000
set_option maxHeartbeats 8000000
theorem containsS_eq {l : List Tx} {x : Tx} : Lib.containsS (l.map bs) (bs x) = l.contains x := by
 rw [Bool.eq_iff_iff, Lib.containsS_iff, List.contains_iff_mem, List.mem_map]
 constructor
 ·rintro ⟨y, hy, e⟩
  rw [bs_eq.1 e] at hy
  exact hy
 ·intro h
  exact ⟨x, h, rfl⟩
theorem wayN_len {l : List Ent} : ∀ {n : Nat} {w : Tx}, (wayN l n w).length ≤ n
 | 0, _ => Nat.le_refl _
 | n + 1, w => by
  unfold wayN
  split
  ·simp
  ·have := wayN_len (l := l) (n := n) (w := seeOf w l)
   simp only [List.length_cons]
   omega
theorem contains_calls (W : World) (v : Value) (l : List Tx) (x : Tx) (h : TextsAt W v l) (hl : l.length ≤ 1000) : Calls Tryz.prog 46 #[v, sV x] W fun e W' => e = .returned (.bool (l.contains x)) ∧ W' = W := by
 obtain ⟨h1, ⟨rfl, h2⟩ | ⟨g, cap, cur, rfl, h2, h3, h4, h5, h6, h7⟩⟩ := h
 ·refine (Tryz.slices_Contains_string_empty none 0 (bs x) W).mono ?_
  rintro e W' ⟨rfl, rfl⟩
  have : l = [] := List.eq_nil_of_length_eq_zero h2
  subst this
  exact ⟨rfl, rfl⟩
 ·refine (Tryz.slices_Contains_string g 0 l.length cap (l.map bs) (bs x) W (by simp) (by omega) (fun j hj => ?_)).mono ?_
  ·have hj' : j < l.length := by simpa using hj
   have e1 : cur.toList[j]? = some (sV l[j]) := by
    have h8 : (cur.toList.take (l.length * 1))[j]? = (l.map sV)[j]? := by rw [h7]
    rw [List.getElem?_take, if_pos (by omega), List.getElem?_map, List.getElem?_eq_getElem hj'] at h8
    exact h8
   have e2 : (l.map bs).getD j ByteArray.empty = bs l[j] := by
    rw [List.getD_eq_getElem?_getD, List.getElem?_map, List.getElem?_eq_getElem hj']
    rfl
   rw [e2]
   simp only [World.cell?, h3, Nat.zero_add]
   simpa using e1
  ·rintro e W' ⟨rfl, rfl⟩
   rw [show (l.map bs).take l.length = l.map bs from List.take_of_length_le (by simp), containsS_eq]
   exact ⟨rfl, rfl⟩
theorem keep2 {W W' : World} {b n : Nat} {x y : Value} (h : W.cell? ⟨b, 0, none⟩ = some x ∧ W.cell? ⟨b, 1, none⟩ = some y) (hb : Below n W W') (hn : b < n) : W'.cell? ⟨b, 0, none⟩ = some x ∧ W'.cell? ⟨b, 1, none⟩ = some y :=
 ⟨(hb.cell (p := ⟨b, 0, none⟩) hn).trans h.1, (hb.cell (p := ⟨b, 1, none⟩) hn).trans h.2⟩
theorem see_do (n p : Nat) (wd ot : Tx) (d : Desk) (w : World) (hd : DeskAt w n p d) (hne : wd ≠ []) (hl : d.ents.length ≤ 1000) :
  Calls Tryz.prog 242 #[.agg #[sV wd, sV ot], ptrV p] w fun e w' => DoP w n p (doSee wd ot d) e w' := by
 have mixed : Tryz.prog.follows .mixedOrders = true := by kernel_rfl
 have Hd := hidC hd
 obtain ⟨me, ma, vv, h1, h2, h3, h4, h5, h6, h7, h8⟩ := hd
 have hp : p < w.heap.size := (Array.getElem?_eq_some_iff.1 h1).1
 have hme : me < w.heap.size := h6.lt
 have hb1 : Below w.heap.size w ((w.alloc (.cells #[sV wd, sV ot] 167)).drew) := ((Below.refl _ _).alloc (Nat.le_refl _) _).drew
 have hb2 : Below w.heap.size w (((w.alloc (.cells #[sV wd, sV ot] 167)).alloc (.cells #[.string ⟨#[]⟩, .string ⟨#[]⟩, .string ⟨#[]⟩, .string ⟨#[]⟩, .int .i64 0, .int .i64 0, .int .i64 0] 79)).drew) := (((Below.refl _ _).alloc (Nat.le_refl _) _).alloc (by simp) _).drew
 have a1 := (desk_cells ((hb1.block p hp).trans h1)).1
 have a2 := (desk_cells ((hb2.block p hp).trans h1)).1
 have k1 := lookE (h6.below hb1 hme) wd
 have k2 := lookE (h6.below hb2 hme) wd
 have H1 := hidC h1
 have H6 := hidC h6
 have H7 := hidC h7
 have H8 := hidC h8
 clear hb1 hb2 h1 h6 h7 h8
 obtain ⟨a0, ha0⟩ : ∃ a0, (getE wd d.ents).getD ent0 = a0 := ⟨_, rfl⟩
 obtain ⟨b0, hb0⟩ : ∃ b0, (getE wd d.ents).isSome = b0 := ⟨_, rfl⟩
 rw [ha0, hb0] at k1 k2
 have Ha0 := hidC ha0
 have Hb0 := hidC hb0
 have Hne := hidC hne
 clear ha0 hb0 hne
 go_enter Tryz.func242, Tryz.ntmps242
 go_wp2_with fail
 go_cut [2, 5, 6] (fun s2 s5 s6 wx => s2 = ptrV w.heap.size ∧ s5 = ptrV (w.heap.size + 1) ∧ s6 = .bool b0 ∧ Below w.heap.size w wx ∧ wx.heap[w.heap.size]? = some (.cells #[sV wd, sV ot] 167 (0, 0)) ∧ wx.heap[w.heap.size + 1]? = some (.cells #[sV a0.word, sV a0.form, sV a0.see, sV a0.writer, nV a0.asked, nV a0.came, nV a0.vol] 79 (0, 0)) ∧ wx.heap.size = w.heap.size + 2)
 case first =>
  go_region
  all_goals go_wp2_with fail
  all_goals go_meet
  all_goals exact ⟨rfl, rfl, rfl, two_new w _ _⟩
 case rest =>
  obtain ⟨rfl, rfl, rfl, hB, q0, q1, hsz⟩ := hcut
  have hpw := (hB.block p hp).trans H1.out
  have hb3 : Below wc.heap.size wc ((wc.alloc (.cells #[.string ⟨#[]⟩, .string ⟨#[]⟩, .string ⟨#[]⟩, .string ⟨#[]⟩, .int .i64 0, .int .i64 0, .int .i64 0] 79)).drew) := ((Below.refl _ _).alloc (Nat.le_refl _) _).drew
  have hpl : p < wc.heap.size := by omega
  have hml : me < wc.heap.size := by omega
  have m6 := H6.out.below hB hme
  have a3 := (desk_cells hpw).1
  have a4 := (desk_cells ((hb3.block p hpl).trans hpw)).1
  obtain ⟨g0, g1⟩ := box2 q0
  have g2 := box2 ((hb3.block w.heap.size (by omega)).trans q0)
  have g3 := g2.2
  have k3 := lookE (W := wc.drew) m6 ot
  have k4 := lookE (m6.below hb3 hml) ot
  obtain ⟨a5, ha5⟩ : ∃ a5, (getE ot d.ents).getD ent0 = a5 := ⟨_, rfl⟩
  obtain ⟨b5, hb5⟩ : ∃ b5, (getE ot d.ents).isSome = b5 := ⟨_, rfl⟩
  rw [ha5, hb5] at k3 k4
  have Ha5 := hidC ha5
  have Hb5 := hidC hb5
  have HB := hidC hB
  have Hq0 := hidC q0
  have Hq1 := hidC q1
  have Hsz := hidC hsz
  clear hB q0 q1 a1 a2 k1 k2 hpw m6 g2 hb3 ha5 hb5 hsz
  obtain ⟨w1, rfl⟩ : ∃ w1, w1 = wc := ⟨_, rfl⟩
  go_wp2_with fail
  go_cut [8] (fun s8 wx => s8 = .bool b5 ∧ Below w1.heap.size w1 wx)
  case first =>
   go_region
   all_goals go_wp2_with fail
   all_goals go_meet
   all_goals exact ⟨rfl, ((Below.refl _ _).alloc (Nat.le_refl _) _).drew⟩
  case rest =>
   obtain ⟨rfl, hB2⟩ := hcut
   have hz1 : w.heap.size + 1 < w1.heap.size := by have := Hsz.out; omega
   have hB := HB.out.trans (hB2.mono (by omega : w.heap.size ≤ w1.heap.size))
   have q0 := (hB2.block w.heap.size (by omega)).trans Hq0.out
   have q1 := (hB2.block (w.heap.size + 1) hz1).trans Hq1.out
   have hpw := (hB.block p hp).trans H1.out
   obtain ⟨e0, e1, e2, e3⟩ := desk_cells hpw
   have Hsh := hidC (shut_calls p wd d wc me ma vv hpw Hne.out)
   obtain ⟨g0, g1⟩ := box2 q0
   obtain ⟨f0, f1, f2, f3, f4, f5, f6⟩ := box7 q1
   have z2 := boxF q1 2
   have Hdw := hidC (DeskAt.below Hd.out hB)
   have HB := hidC hB
   have Hq := hidC q1
   have hszw : w1.heap.size ≤ wc.heap.size := hB2.size
   clear hB hB2 q0 q1 e1 e2 e3 a3 a4 k3 k4 hpw
   cases b0 with
   | false =>
    have hR : doSee wd ot d = (2, d) := by
     unfold doSee
     cases hg : getE wd d.ents with
     | none => rfl
     | some a => rw [hg] at Hb0; exact absurd Hb0.out (by simp)
    have HR := hidC hR
    clear hR
    go_wp2
    go_ret
    rw [HR.out]
    exact ⟨rfl, HB.out.mono (by omega), fun h => by cases h⟩
   | true =>
    obtain ⟨a, hg⟩ : ∃ a, getE wd d.ents = some a := Option.isSome_iff_exists.1 Hb0.out
    obtain rfl : a = a0 := by rw [← Ha0.out, hg]; rfl
    have hw := getE_word hg
    obtain ⟨aw, af, ase, awr, aas, aca, avo⟩ := a
    obtain rfl : aw = wd := hw
    have Hg := hidC hg
    clear hg
    cases b5 with
    | false =>
     have hR : doSee aw ot d = (2, d) := by
      unfold doSee
      rw [Hg.out]
      cases hg : getE ot d.ents with
      | none => rfl
      | some a => rw [hg] at Hb5; exact absurd Hb5.out (by simp)
     have HR := hidC hR
     clear hR
     go_wp2
     go_ret
     rw [HR.out]
     exact ⟨rfl, HB.out.mono (by omega), fun h => by cases h⟩
    | true =>
     obtain ⟨b, hg5⟩ : ∃ b, getE ot d.ents = some b := Option.isSome_iff_exists.1 Hb5.out
     have Hg5 := hidC hg5
     clear hg5
     cases ase with
     | cons c1 l1 =>
      have hR : doSee aw ot d = (6, d) := by
       unfold doSee
       rw [Hg.out, Hg5.out]
       simp only [List.isEmpty_cons, Bool.not_false]
      have HR := hidC hR
      clear hR
      go_wp2
      go_ret
      rw [HR.out]
      exact ⟨rfl, HB.out.mono (by omega), fun h => by cases h⟩
     | nil =>
      cases awr with
      | cons c1 l1 =>
       have hR : doSee aw ot d = (16, d) := by
        unfold doSee
        rw [Hg.out, Hg5.out]
        simp only [List.isEmpty_cons, List.isEmpty_nil, Bool.not_false, Bool.not_true]
       have HR := hidC hR
       clear hR
       go_wp2
       go_ret
       rw [HR.out]
       exact ⟨rfl, HB.out.mono (by omega), fun h => by cases h⟩
      | nil =>
       cases hsh : d.shut aw with
       | true =>
        rw [hsh] at Hsh
        have HS := hidC hsh
        clear hsh
        have hR : doSee aw ot d = (20, d) := by
         unfold doSee
         rw [Hg.out, Hg5.out]
         simp only [List.isEmpty_nil, Bool.not_true, HS.out]
        have HR := hidC hR
        clear hR
        go_wp2_with (go_at_call 86; refine Hsh.out.mono ?_; rintro e w' ⟨rfl, rfl⟩)
        go_ret
        rw [HR.out]
        exact ⟨rfl, HB.out.drew.mono (by omega), fun h => by cases h⟩
       | false =>
        rw [hsh] at Hsh
        have HS := hidC hsh
        have HW : Hid (∀ W, Below wc.heap.size wc W → Calls Tryz.prog 59 #[ptrV p, sV ot] W fun e w' => TxP W (d.way ot) e w') := hidC fun W hW => way_calls p ot d W n (DeskAt.below Hdw.out hW) hl
        have HC : Hid (∀ W v, TextsAt W v (d.way ot) → Calls Tryz.prog 46 #[v, sV aw] W fun e W' => e = .returned (.bool ((d.way ot).contains aw)) ∧ W' = W) := hidC fun W v h => contains_calls W v _ aw h (Nat.le_trans wayN_len hl)
        obtain ⟨b6, hb6⟩ : ∃ b6, (d.way ot).contains aw = b6 := ⟨_, rfl⟩
        rw [hb6] at HC
        have Hb6 := hidC hb6
        clear hsh hb6
        obtain ⟨w2, rfl⟩ : ∃ w2, w2 = wc := ⟨_, rfl⟩
        go_upto_region 11 with (go_at_call 86; refine Hsh.out.mono ?_; rintro e w' ⟨rfl, rfl⟩)
        go_cut [55] (fun s55 wx => s55 = .bool b6 ∧ Below w2.heap.size w2 wx)
        case first =>
         have hk2 : w.heap.size < w2.heap.size := by omega
         have hbx : w2.cell? ⟨w.heap.size, 0, none⟩ = some (sV aw) ∧ w2.cell? ⟨w.heap.size, 1, none⟩ = some (sV ot) := ⟨g0, g1⟩
         go_region_held3 (fun w' => w'.cell? ⟨w.heap.size, 0, none⟩ = some (sV aw) ∧ w'.cell? ⟨w.heap.size, 1, none⟩ = some (sV ot)) (first | exact keep2 hbx (by assumption) hk2 | go_keep)
          (first | (go_at_call 59; refine (HW.out _ (by first | exact Below.refl _ _ | exact (Below.refl _ _).drew | exact (Below.refl _ _).drew.drew)).mono ?_; rintro e wa ⟨va, rfl, hta, hba⟩; have hba' : Below w2.heap.size w2 wa := (Below.refl _ _).trans ⟨hba.os, hba.tape, hba.output, hba.size, hba.block⟩) | (go_at_call 46; refine (HC.out _ _ (by assumption)).mono ?_; rintro e wb ⟨rfl, rfl⟩))
         all_goals go_wp2_with fail
         all_goals go_meet
         all_goals exact ⟨rfl, hba'⟩
        case rest =>
         obtain ⟨rfl, hB3⟩ := hcut
         have hB := HB.out.trans (hB3.mono (by omega : w.heap.size ≤ w2.heap.size))
         have q1 := (hB3.block (w.heap.size + 1) (by omega)).trans Hq.out
         have g1' := (hB3.cell (p := ⟨w.heap.size, 1, none⟩) (by simp; omega)).trans g1
         have g0' := (hB3.cell (p := ⟨w.heap.size, 0, none⟩) (by simp; omega)).trans g0
         obtain ⟨f0, f1, f2, f3, f4, f5, f6⟩ := box7 q1
         have z2 := boxF q1 2
         have HB3 := hidC hB
         clear hB3 hB q1
         cases b6 with
         | true =>
          have hR : doSee aw ot d = (13, d) := by
           unfold doSee
           rw [Hg.out, Hg5.out]
           simp only [List.isEmpty_nil, Bool.not_true, HS.out, Hb6.out]
          have HR := hidC hR
          clear hR
          go_wp2
          go_ret
          rw [HR.out]
          exact ⟨rfl, HB3.out.mono (by omega), fun h => by cases h⟩
         | false =>
          have hR : doSee aw ot d = (0, { d with ents := putE ⟨aw, af, ot, [], aas, aca, avo⟩ d.ents }) := by
           unfold doSee
           rw [Hg.out, Hg5.out]
           simp only [List.isEmpty_nil, Bool.not_true, HS.out, Hb6.out]
          have HR := hidC hR
          have hm3 : Below w.heap.size w (wc.setCell ⟨w.heap.size + 1, 2, none⟩ (sV ot)).drew := (HB3.out.setCell (p := ⟨w.heap.size + 1, 2, none⟩) (Nat.le_succ _) _).drew
          have e0' := (desk_cells ((hm3.block p hp).trans H1.out)).1
          obtain ⟨o, hu, hM⟩ := updE (H6.out.below hm3 hme) ⟨aw, af, ot, [], aas, aca, avo⟩
          have Hm3 := hidC hm3
          have HM := hidC hM
          clear hR hm3 hM
          go_wp2
          go_region
          go_wp2
          go_ret
          rw [HR.out]
          exact ents_end H1.out h2 h3 h4 h5 H6.out H7.out H8.out Hm3.out HM.out
end Go.Proofs.YtjeadhfponlnnaaGreatDoor

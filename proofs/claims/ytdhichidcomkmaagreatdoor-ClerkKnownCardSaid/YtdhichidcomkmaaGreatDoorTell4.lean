/-
  Tell, where a line is an order.
  Conditions: none; lemmas.
-/
import Derived.Test.YtdhichidcomkmaaGreatDoorTell1
set_option linter.unusedSimpArgs false
set_option linter.unusedVariables false
namespace Go.Proofs.YtdhichidcomkmaaGreatDoor
open Go.RowKit Go.Pur Go.Clerk
open Go.Abs
set_option maxRecDepth 1000000
set_option maxHeartbeats 8000000
structure Boxes3 (w w2 : World) (o t7 now : Nat) : Prop where
 b2 : w2.heap[w.heap.size]? = some (.cells #[ptrV o] 25 (0, 0))
 b4 : w2.heap[w.heap.size + 1]? = some (.cells #[nV 0] 29 (0, 0))
 b7 : w2.heap[t7]? = some (.cells #[ptrV now] 56 (0, 0))
 lt7 : w.heap.size + 2 ≤ t7
 below : Below w.heap.size w w2
theorem one_set {W : World} {b : Nat} {x y : Value} {t : TypeId} (h : W.heap[b]? = some (.cells #[x] t (0, 0))) : (W.setCell ⟨b, 0, none⟩ y).heap[b]? = some (.cells #[y] t (0, 0)) := by
 simp only [World.setCell, Array.getElem?_modify, if_pos rfl, h, Option.map_some]
 rfl
theorem boxes3_of {w w1 : World} {o now : Nat} (h : Boxes w w1 o) (hs : w.heap.size + 2 ≤ w1.heap.size) : Boxes3 w ((w1.setCell ⟨w.heap.size + 1, 0, none⟩ (.int .i64 0)).alloc (.cells #[ptrV now] 56)) o w1.heap.size now := by
 have hz : (w1.setCell ⟨w.heap.size + 1, 0, none⟩ (.int .i64 0)).heap.size = w1.heap.size := by simp
 refine ⟨?_, ?_, ?_, hs, ?_⟩
 ·rw [heap_alloc_old _ _ (by rw [hz]; omega), Below.heap_setCell _ _ _ _ (by simp)]
  exact h.t2
 ·rw [heap_alloc_old _ _ (by rw [hz]; omega)]
  exact one_set h.t4
 ·have := heap_alloc_new (w1.setCell ⟨w.heap.size + 1, 0, none⟩ (.int .i64 0)) (.cells #[ptrV now] 56)
  rw [hz] at this
  exact this
 ·exact (h.below.setCell (by simp) _).alloc (by rw [hz]; omega) _
structure Mid (w w4 : World) (o t7 now q m : Nat) (pv lv : Value) (d : Desk) : Prop where
 b2 : w4.heap[w.heap.size]? = some (.cells #[ptrV o] 25 (0, 0))
 b4 : w4.heap[w.heap.size + 1]? = some (.cells #[nV 0] 29 (0, 0))
 b7 : w4.heap[t7]? = some (.cells #[ptrV now] 56 (0, 0))
 lt7 : w.heap.size + 2 ≤ t7
 ltm : t7 < m
 off : w4.heap[o]? = some (.cells #[ptrV q, pv, lv] 59 (0, 0))
 desk : DeskAt w4 m q d
 but : But (· = o) w.heap.size w w4
theorem off_set {W : World} {o now q : Nat} {pv lv : Value} (h : W.heap[o]? = some (.cells #[ptrV now, pv, lv] 59 (0, 0))) : (W.setCell ⟨o, 0, none⟩ (ptrV q)).heap[o]? = some (.cells #[ptrV q, pv, lv] 59 (0, 0)) := by
 simp only [World.setCell, Array.getElem?_modify, if_pos rfl, h, Option.map_some]
 rfl
theorem but_set {W : World} {o n : Nat} {x : Value} : But (· = o) n W (W.setCell ⟨o, 0, none⟩ x) := ⟨rfl, rfl, rfl, by simp, fun k _ hk => Below.heap_setCell _ _ _ _ hk⟩
theorem mid_of {w w2 w3 : World} {o t7 now q : Nat} {pv lv : Value} {d : Desk} (h : Boxes3 w w2 o t7 now) (h1 : w.heap[o]? = some (.cells #[ptrV now, pv, lv] 59 (0, 0))) (hb : Below w2.heap.size w2 w3) (hd : DeskAt w3 w2.heap.size q d) :
  Mid w (w3.setCell ⟨o, 0, none⟩ (ptrV q)) o t7 now q w2.heap.size pv lv d := by
 have hol : o < w.heap.size := (Array.getElem?_eq_some_iff.1 h1).1
 have l2 : w.heap.size < w2.heap.size := (Array.getElem?_eq_some_iff.1 h.b2).1
 have l4 : w.heap.size + 1 < w2.heap.size := (Array.getElem?_eq_some_iff.1 h.b4).1
 have l7 : t7 < w2.heap.size := (Array.getElem?_eq_some_iff.1 h.b7).1
 have g7 := h.lt7
 have h3 : w3.heap[o]? = some (.cells #[ptrV now, pv, lv] 59 (0, 0)) := (hb.block o (by omega)).trans ((h.below.block o hol).trans h1)
 have hX : Ofs w3 59 (· = o) := fun k hk => by
  subst hk
  unfold cellTy
  simp only [h3]
 refine ⟨?_, ?_, ?_, h.lt7, l7, off_set h3, hd.but (but_set (n := w3.heap.size)) (Nat.le_refl _) hX, ?_⟩
 ·rw [Below.heap_setCell _ _ _ _ (by show w.heap.size ≠ o; omega), hb.block _ l2]; exact h.b2
 ·rw [Below.heap_setCell _ _ _ _ (by show w.heap.size + 1 ≠ o; omega), hb.block _ l4]; exact h.b4
 ·rw [Below.heap_setCell _ _ _ _ (by show t7 ≠ o; omega), hb.block _ l7]; exact h.b7
 ·exact ((But.of (h.below.trans (hb.mono (by omega))) : But (· = o) w.heap.size w w3)).trans but_set
theorem set_far0 {W : World} {a b i : Nat} {x : Option Value} {y : Value} (h : W.cell? ⟨a, i, none⟩ = x) (hn : a ≠ b) : (W.setCell ⟨b, 0, none⟩ y).cell? ⟨a, i, none⟩ = x := by
 rw [← h]
 exact World.cell?_of_block (Below.heap_setCell _ _ _ _ hn)
theorem off_back {w w' : World} {o : Nat} {S : Off} (h : OffAt w o S) (he : w'.heap[o]? = w.heap[o]?) (hb : But (· = o) w.heap.size w w') : OffAt w' o S :=
 h.but (X := fun _ => False) (n := w.heap.size) ⟨hb.os, hb.tape, hb.output, hb.size, fun k hk _ => by
  by_cases hko : k = o
  ·rw [hko]; exact he
  ·exact hb.block k hk hko⟩ (Nat.le_refl _) (fun _ h => h.elim) (fun h => h)
theorem tell_refused (o n k : Nat) (d' : Desk) (S : Off) (line : Tx) (w : World) (hO : OffAt w o S) (hE : Env w) (h16 : 16 ≤ o) (hl : line.length ≤ 100000) (x : Ord) (T : TypeId) (v : Value) (K : FuncId) (hR : doO x S.now = (k + 1, d')) (hx : ordV (some x) = .iface T v) (hp : parse line = (some x, 0)) (h0 : S.lines.length = n) (hn : n ≤ 149) (hvl : S.now.vols.length ≤ 1000)
  (hna : ∀ w, (nilAhead 403 T v "headword/clerk.do").run Tryz.prog w = .ok (some false) w)
  (hme : ∀ w, (method 403 T v "headword/clerk.do").run Tryz.prog w = .ok (K, v) w)
  (hcf : ∀ args w, (callFunc K args).run Tryz.prog w = .ok (.enter K args) w)
  (hK : ∀ W m q, DeskAt W m q S.now → Env W → Calls Tryz.prog K #[v, ptrV q] W fun e W' => DoP W m q (doO x S.now) e W') :
  Calls Tryz.prog 18 #[ptrV o, sV line] w fun e w' => e = .returned (nV (k + 1)) ∧ OffAt w' o S ∧ But (· = o) w.heap.size w w' := by
 have mixed : Tryz.prog.follows .mixedOrders = true := by kernel_rfl
 have HO := hidC hO
 have hol := hO.lt
 obtain ⟨now, pv, lv, ps, h1, h2, h3, h4, h5, h6⟩ := hO
 obtain ⟨la, lc, rfl⟩ := row_slice h5
 rw [h0] at h1
 have HI := hidC (fun W (hW : Below w.heap.size w W) => invalid_calls o now W (off_cells ((hW.block o hol).trans h1)).1)
 have HP : Hid (∀ W, Below w.heap.size w W → Calls Tryz.prog 50 #[sV line] W fun e W' => e = .returned (.tuple #[.iface T v, .int .i64 0]) ∧ Below W.heap.size W W') := hidC (fun W hW => by have h := parsed_calls line W (hE.below hW hE.size) hl; rw [hp] at h; unfold OrP at h; rw [hx] at h; exact h)
 have HC := hidC (fun W (hW : Below w.heap.size w W) => clone_calls now S.now W (h2.below hW) hvl)
 have h150 : ((n : Int) == 150) = false := beq_eq_false_iff_ne.2 (by omega)
 have h151 : ¬ n = 150 := by omega
 rw [hR] at hK
 have HK := hidC hK
 have hk0 : (((k + 1 : Nat) : Int) != 0) = true := bne_iff_ne.2 (by omega)
 have HO1 := hidC h1
 have HE := hidC hE
 clear hp hE h2 h3 h4 h5 h6 h0 hx hK hvl
 have hmf : ∀ (fn : Fn) (first cap : Array Value) (w : World), (Instr.makeFunc fn first cap).run Tryz.prog w = .ok (.func fn first cap) w := fun _ _ _ _ => rfl
 go_enter_defers Tryz.func18, Tryz.ntmps18
 go_wp2_with (go_at_call 49; refine (HI.out _ (((Below.refl _ _).alloc (Nat.le_refl _) _).alloc (by simp) _)).mono ?_; rintro e wa ⟨rfl, rfl⟩)
 go_wp2_with (go_at_call 50; refine (HP.out _ (((Below.refl _ _).alloc (Nat.le_refl _) _).alloc (by simp) _)).mono ?_; rintro e w1 ⟨rfl, hB1⟩; have hsz := hB1.size; have hBx := hidC (boxes_of hB1); clear hB1; obtain ⟨c2, z2⟩ := one_cell hBx.out.t2; obtain ⟨c4, z4⟩ := one_cell hBx.out.t4; obtain ⟨co0, co1, co2, zo⟩ := off_cells ((hBx.out.below.block o hol).trans h1); have n4 : ¬ o = w.heap.size + 1 := by omega)
 have h2s : w.heap.size + 2 ≤ w1.heap.size := by simpa using hsz
 have hB3 := hidC (boxes3_of (now := now) hBx.out h2s)
 obtain ⟨t7, ht7⟩ : ∃ t, w1.heap.size = t := ⟨_, rfl⟩
 obtain ⟨w2, hw2⟩ : ∃ x, (w1.setCell ⟨w.heap.size + 1, 0, none⟩ (.int .i64 0)).alloc (.cells #[ptrV now] 56) = x := ⟨_, rfl⟩
 rw [hw2] at hB3
 show Code.wp _ _ _ _ ((w1.setCell ⟨w.heap.size + 1, 0, none⟩ (.int .i64 0)).alloc (.cells #[ptrV now] 56))
 rw [hw2]
 rw [ht7] at hB3 h2s ⊢
 clear hw2 c2 z2 c4 z4 co0 co1 co2 zo hBx ht7 hsz
 obtain ⟨c2, z2⟩ := one_cell hB3.out.b2
 obtain ⟨c4, z4⟩ := one_cell hB3.out.b4
 obtain ⟨c7, z7⟩ := one_cell hB3.out.b7
 obtain ⟨co0, co1, co2, zo⟩ := off_cells ((hB3.out.below.block o hol).trans HO1.out)
 have l2 : w.heap.size < w2.heap.size := (Array.getElem?_eq_some_iff.1 hB3.out.b2).1
 have l7 : t7 < w2.heap.size := (Array.getElem?_eq_some_iff.1 hB3.out.b7).1
 have Hk : Hid (∀ W, Below w2.heap.size w2 W → W.cell? ⟨w.heap.size, 0, none⟩ = some (ptrV o) ∧ W.cell? ⟨t7, 0, none⟩ = some (ptrV now)) := hidC fun W hW => ⟨(hW.cell (p := ⟨w.heap.size, 0, none⟩) l2).trans c2, (hW.cell (p := ⟨t7, 0, none⟩) l7).trans c7⟩
 have HL : Hid (∀ W, Below w2.heap.size w2 W → W.cell? ⟨o, 0, none⟩ = some (ptrV now) ∧ W.frozen? ⟨o, 0, none⟩ = false) := hidC fun W hW => ⟨(hW.cell (p := ⟨o, 0, none⟩) (by show o < _; omega)).trans co0, (hW.frozen (p := ⟨o, 0, none⟩) (by show o < _; omega)).trans (zo 0)⟩
 have n2 : ¬ o = w.heap.size := by omega
 have n7 : ¬ o = t7 := by omega
 clear co1 co2 z7 z2
 go_region_held3 (fun w' => w'.cell? ⟨w.heap.size, 0, none⟩ = some (ptrV o) ∧ w'.cell? ⟨t7, 0, none⟩ = some (ptrV now)) (first | exact Hk.out _ (by assumption) | exact Hk.out _ (Below.refl _ _).drew | go_keep)
  (first | (go_at_call 51; refine (HC.out _ (by first | exact hB3.out.below | exact hB3.out.below.drew | exact hB3.out.below.drew.drew)).mono ?_; rintro e w3 ⟨q, rfl, hq, hb3⟩; have hb4 : Below w2.heap.size w2 w3 := ((Below.refl _ _).drew).trans hb3; have ⟨hl3, hl4⟩ := HL.out _ hb4))
 go_wp2_with fail
 have hM := hidC (mid_of hB3.out HO1.out hb4 hq)
 obtain ⟨m, hm⟩ : ∃ m, w2.heap.size = m := ⟨_, rfl⟩
 obtain ⟨w4, hw4⟩ : ∃ x, w3.setCell ⟨o, 0, none⟩ (ptrV q) = x := ⟨_, rfl⟩
 rw [hw4] at hM
 rw [hm] at hM
 show Code.wp _ _ _ _ (w3.setCell ⟨o, 0, none⟩ (ptrV q))
 rw [hw4]
 clear hw4 hm hl3 hl4 hq hb3 hb4 hB3 c2 c4 c7 z4 co0 zo l2 l7 Hk HL HC HP HI h1
 obtain ⟨c2, z2⟩ := one_cell hM.out.b2
 obtain ⟨c4, z4⟩ := one_cell hM.out.b4
 obtain ⟨c7, z7⟩ := one_cell hM.out.b7
 obtain ⟨co0, co1, co2, zo⟩ := off_cells hM.out.off
 have l7 := hM.out.lt7
 have lm := hM.out.ltm
 have Hk : Hid (∀ W, Below m w4 W → W.cell? ⟨w.heap.size, 0, none⟩ = some (ptrV o) ∧ W.cell? ⟨o, 0, none⟩ = some (ptrV q)) := hidC fun W hW => ⟨(hW.cell (p := ⟨w.heap.size, 0, none⟩) (by show w.heap.size < m; omega)).trans c2, (hW.cell (p := ⟨o, 0, none⟩) (by show o < m; omega)).trans co0⟩
 have HL : Hid (∀ W, Below m w4 W → W.cell? ⟨w.heap.size + 1, 0, none⟩ = some (nV 0) ∧ W.frozen? ⟨w.heap.size + 1, 0, none⟩ = false) := hidC fun W hW => ⟨(hW.cell (p := ⟨w.heap.size + 1, 0, none⟩) (by show w.heap.size + 1 < m; omega)).trans c4, (hW.frozen (p := ⟨w.heap.size + 1, 0, none⟩) (by show w.heap.size + 1 < m; omega)).trans z4⟩
 clear co1 co2 z7 z2 c7 zo z4
 have Hd : Hid (DeskAt w4.drew m q S.now) := hidC (hM.out.desk.below ((Below.refl _ _).drew))
 have HEn : Hid (Env w4.drew) := hidC (HE.out.of hM.out.but.size fun k hk => hM.out.but.block k (by have := HE.out.size; omega) (by omega))
 go_region_held3 (fun w' => w'.cell? ⟨w.heap.size, 0, none⟩ = some (ptrV o) ∧ w'.cell? ⟨o, 0, none⟩ = some (ptrV q)) (first | exact Hk.out _ (by assumption) | exact Hk.out _ (Below.refl _ _).drew | exact ⟨set_far0 (Hk.out _ (by assumption)).1 (by omega), set_far0 (Hk.out _ (by assumption)).2 (by omega)⟩ | go_keep)
  (first | ((try go_simp); refine (HK.out _ _ _ Hd.out HEn.out).mono ?_; rintro e w5 ⟨rfl, hb5, hd5⟩; have hb6 : Below m w4 w5 := ((Below.refl _ _).drew).trans hb5; have ⟨hl3, hl4⟩ := HL.out _ hb6))
 go_wp2_with fail
 have k2 := hM.out.but.block
 have g2 : w5.heap[w.heap.size]? = some (.cells #[ptrV o] 25 (0, 0)) := (hb6.block _ (by omega)).trans hM.out.b2
 have g4 : w5.heap[w.heap.size + 1]? = some (.cells #[nV 0] 29 (0, 0)) := (hb6.block _ (by omega)).trans hM.out.b4
 have g7 : w5.heap[t7]? = some (.cells #[ptrV now] 56 (0, 0)) := (hb6.block _ lm).trans hM.out.b7
 have gO := (hb6.block o (by omega)).trans hM.out.off
 obtain ⟨w6, hw6⟩ : ∃ y, ((w5.setCell ⟨w.heap.size + 1, 0, none⟩ (nV (k + 1))).setCell ⟨w.heap.size + 1, 0, none⟩ (nV (k + 1))) = y := ⟨_, rfl⟩
 have p4 : w6.heap[w.heap.size + 1]? = some (.cells #[nV (k + 1)] 29 (0, 0)) := by rw [← hw6]; exact one_set (one_set g4)
 have pB : ∀ b, b ≠ w.heap.size + 1 → w6.heap[b]? = w5.heap[b]? := fun b hb => by rw [← hw6, Below.heap_setCell _ _ _ _ hb, Below.heap_setCell _ _ _ _ hb]
 have pS : w5.heap.size ≤ w6.heap.size := by rw [← hw6]; simp
 have pO : w6.os = w5.os ∧ w6.tape = w5.tape ∧ w6.output = w5.output := by rw [← hw6]; exact ⟨rfl, rfl, rfl⟩
 show bodyPostD _ _ _ _ _ ((w5.setCell ⟨w.heap.size + 1, 0, none⟩ (nV (k + 1))).setCell ⟨w.heap.size + 1, 0, none⟩ (nV (k + 1)))
 rw [hw6]
 have q4 := one_cell p4
 have q2 := one_cell ((pB _ (by omega)).trans g2)
 have q7 := one_cell ((pB _ (by omega)).trans g7)
 have qo := (pB o (by omega)).trans gO
 have qc := off_cells qo
 have hbut : But (· = o) w.heap.size w (w6.setCell ⟨o, 0, none⟩ (ptrV now)) := by
  refine (hM.out.but.trans (But.of (hb6.mono (by omega)))).trans (But.trans (b := w6) ⟨pO.1, pO.2.1, pO.2.2, pS, fun b hb _ => pB b (by omega)⟩ but_set)
 refine leaves_cons (f := 52) (args := #[.pointer (some ⟨w.heap.size + 1, 0, none⟩), .pointer (some ⟨t7, 0, none⟩), .pointer (some ⟨w.heap.size, 0, none⟩)]) (by simp) (by simp [go_sem]) ?_
 refine (tail52_err (w.heap.size + 1) t7 w.heap.size o now k (ptrV q) w6 q4.1 q7.1 q2.1 qc.1 (qc.2.2.2 0)).mono ?_
 rintro e u' w'' ⟨rfl, rfl, rfl⟩
 have q8 := set_far0 (y := ptrV now) q4.1 (b := o) (by omega)
 refine ⟨_, by simp [results, Tryz.results18, go_sem, q8], rfl, ?_, hbut⟩
 exact off_back HO.out ((off_set qo).trans HO1.out.symm) hbut
end Go.Proofs.YtdhichidcomkmaaGreatDoor

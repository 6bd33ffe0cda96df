/-
  Tell, where a line is not an order.
  Tell, where a line is an order.
  Tell, where a line is an order.
  The office behind a line that was taken.
  Conditions: none; definitions and lemmas.
-/
import Derived.Test.YtjeadhfponlnnaaGreatDoorSmall18
import Derived.Test.YtjeadhfponlnnaaGreatDoorParsed50
set_option linter.unusedSimpArgs false
set_option linter.unusedVariables false
namespace Go.Proofs.YtjeadhfponlnnaaGreatDoor
open Go.RowKit Go.Pur Go.Clerk
open Go.Abs
set_option maxRecDepth 1000000
set_option maxHeartbeats 8000000
theorem off_cells {W : World} {o now : Nat} {pv lv : Value} (h : W.heap[o]? = some (.cells #[ptrV now, pv, lv] 59 (0, 0))) : W.cell? ⟨o, 0, none⟩ = some (ptrV now) ∧ W.cell? ⟨o, 1, none⟩ = some pv ∧ W.cell? ⟨o, 2, none⟩ = some lv ∧ (∀ i, W.frozen? ⟨o, i, none⟩ = false) := by
 refine ⟨by simp [World.cell?, h], by simp [World.cell?, h], by simp [World.cell?, h], fun i => by simp [World.frozen?, h]⟩
theorem one_cell {W : World} {b : Nat} {x : Value} {t : TypeId} (h : W.heap[b]? = some (.cells #[x] t (0, 0))) : W.cell? ⟨b, 0, none⟩ = some x ∧ W.frozen? ⟨b, 0, none⟩ = false := by
 refine ⟨by simp [World.cell?, h], by simp [World.frozen?, h]⟩
structure Boxes (w w1 : World) (o : Nat) : Prop where
 t2 : w1.heap[w.heap.size]? = some (.cells #[ptrV o] 25 (0, 0))
 t4 : w1.heap[w.heap.size + 1]? = some (.cells #[nV 0] 29 (0, 0))
 below : Below w.heap.size w w1
theorem boxes_of {w w1 : World} {o : Nat} (h : Below ((w.alloc (.cells #[ptrV o] 25)).alloc (.cells #[.int .i64 0] 29)).heap.size ((w.alloc (.cells #[ptrV o] 25)).alloc (.cells #[.int .i64 0] 29)) w1) : Boxes w w1 o := by
 refine ⟨?_, ?_, ?_⟩
 ·rw [h.block _ (by simp; omega)]
  rw [heap_alloc_old _ _ (by simp)]
  exact heap_alloc_new _ _
 ·rw [h.block _ (by simp)]
  have := heap_alloc_new (w.alloc (.cells #[ptrV o] 25)) (.cells #[.int .i64 0] 29)
  have e : (w.alloc (.cells #[ptrV o] 25)).heap.size = w.heap.size + 1 := by simp
  rw [e] at this
  exact this
 ·exact (((Below.refl _ _).alloc (Nat.le_refl _) _).alloc (by simp) _).trans (h.mono (by simp; omega))
theorem tell_err (o : Nat) (S : Off) (line : Tx) (w : World) (hO : OffAt w o S) (hE : Env w) (h16 : 16 ≤ o) (hl : line.length ≤ 100000) (r1 : Option Ord) (k : Nat) (hp : parse line = (r1, k + 1)) :
  Calls Tryz.prog 18 #[ptrV o, sV line] w fun e w' => e = .returned (nV (k + 1)) ∧ OffAt w' o S ∧ But (· = o) w.heap.size w w' := by
 have mixed : Tryz.prog.follows .mixedOrders = true := by kernel_rfl
 have HO := hidC hO
 have hol := hO.lt
 obtain ⟨now, pv, lv, ps, h1, h2, h3, h4, h5, h6⟩ := hO
 obtain ⟨la, lc, rfl⟩ := row_slice h5
 have HI := hidC (fun W (hW : Below w.heap.size w W) => invalid_calls o now W (off_cells ((hW.block o hol).trans h1)).1)
 have HP := hidC (fun W (hW : Below w.heap.size w W) => parsed_calls line W (hE.below hW hE.size) hl)
 rw [hp] at HP
 clear hp hE h2 h3 h4 h5
 have hmf : ∀ (fn : Fn) (first cap : Array Value) (w : World), (Instr.makeFunc fn first cap).run Tryz.prog w = .ok (.func fn first cap) w := fun _ _ _ _ => rfl
 go_enter_defers Tryz.func18, Tryz.ntmps18
 go_wp2_with (go_at_call 49; refine (HI.out _ (((Below.refl _ _).alloc (Nat.le_refl _) _).alloc (by simp) _)).mono ?_; rintro e wa ⟨rfl, rfl⟩)
 go_wp2_with (go_at_call 50; refine (HP.out _ (((Below.refl _ _).alloc (Nat.le_refl _) _).alloc (by simp) _)).mono ?_; rintro e w1 ⟨rfl, hB1⟩; have hBx := hidC (boxes_of hB1); clear hB1; obtain ⟨c2, z2⟩ := one_cell hBx.out.t2; obtain ⟨c4, z4⟩ := one_cell hBx.out.t4; obtain ⟨co0, co1, co2, zo⟩ := off_cells ((hBx.out.below.block o hol).trans h1); have n4 : ¬ o = w.heap.size + 1 := by omega)
 have hB := hBx.out.below
 refine ⟨_, by simp [results, Tryz.results18, go_sem, c4, z4]; rfl, ?_⟩
 have hB2 := (hB.setCell (by simp) (p := ⟨w.heap.size + 1, 0, none⟩) (.int .i64 (↑k + 1))).setCell (by simp) (p := ⟨w.heap.size + 1, 0, none⟩) (.int .i64 (↑k + 1))
 exact ⟨rfl, HO.out.below hB2, But.of hB2⟩
theorem tell_undo0 (o : Nat) (S : Off) (line : Tx) (w : World) (hO : OffAt w o S) (hE : Env w) (h16 : 16 ≤ o) (hl : line.length ≤ 100000) (hp : parse line = (none, 0)) (h0 : S.lines.length = 0) :
  Calls Tryz.prog 18 #[ptrV o, sV line] w fun e w' => e = .returned (nV 4) ∧ OffAt w' o S ∧ But (· = o) w.heap.size w w' := by
 have mixed : Tryz.prog.follows .mixedOrders = true := by kernel_rfl
 have HO := hidC hO
 have hol := hO.lt
 obtain ⟨now, pv, lv, ps, h1, h2, h3, h4, h5, h6⟩ := hO
 obtain ⟨la, lc, rfl⟩ := row_slice h5
 rw [h0] at h1
 have HI := hidC (fun W (hW : Below w.heap.size w W) => invalid_calls o now W (off_cells ((hW.block o hol).trans h1)).1)
 have HP : Hid (∀ W, Below w.heap.size w W → Calls Tryz.prog 50 #[sV line] W fun e W' => e = .returned (.tuple #[.nilIface, .int .i64 0]) ∧ Below W.heap.size W W') := hidC (fun W hW => by have h := parsed_calls line W (hE.below hW hE.size) hl; rw [hp] at h; exact h)
 clear hp hE h2 h3 h4 h5 h6 h0
 have hmf : ∀ (fn : Fn) (first cap : Array Value) (w : World), (Instr.makeFunc fn first cap).run Tryz.prog w = .ok (.func fn first cap) w := fun _ _ _ _ => rfl
 go_enter_defers Tryz.func18, Tryz.ntmps18
 go_wp2_with (go_at_call 49; refine (HI.out _ (((Below.refl _ _).alloc (Nat.le_refl _) _).alloc (by simp) _)).mono ?_; rintro e wa ⟨rfl, rfl⟩)
 go_wp2_with (go_at_call 50; refine (HP.out _ (((Below.refl _ _).alloc (Nat.le_refl _) _).alloc (by simp) _)).mono ?_; rintro e w1 ⟨rfl, hB1⟩; have hBx := hidC (boxes_of hB1); clear hB1; obtain ⟨c2, z2⟩ := one_cell hBx.out.t2; obtain ⟨c4, z4⟩ := one_cell hBx.out.t4; obtain ⟨co0, co1, co2, zo⟩ := off_cells ((hBx.out.below.block o hol).trans h1); have n4 : ¬ o = w.heap.size + 1 := by omega)
 have hB := hBx.out.below
 refine ⟨_, by simp [results, Tryz.results18, go_sem, c4, z4]; rfl, ?_⟩
 have hB2 := (hB.setCell (by simp) (p := ⟨w.heap.size + 1, 0, none⟩) (.int .i64 0)).setCell (by simp) (p := ⟨w.heap.size + 1, 0, none⟩) (.int .i64 4)
 exact ⟨rfl, HO.out.below hB2, But.of hB2⟩
theorem row_at {W : World} {B e n : Nat} {v : Value} {xs : List Value} (h : W.ownsRow B e 1 v n xs) {j : Nat} (hj : j < n) : ∃ g cap, v = .slice (some ⟨g, 0, none⟩) n cap ∧ W.cell? ⟨g, j, none⟩ = xs[j]? ∧ cellTy W g = some e ∧ g < W.heap.size ∧ n ≤ cap := by
 obtain ⟨h1, h2⟩ := h
 rcases h2 with ⟨_, h2⟩ | ⟨g, cap, cur, h3, h4, h5, h6, h7, h8, h9⟩
 ·omega
 ·refine ⟨g, cap, h3, ?_, by unfold cellTy; simp only [h5], (Array.getElem?_eq_some_iff.1 h5).1, h6⟩
  have hj1 : j < n * 1 := by omega
  rw [← h9, List.getElem?_take, if_pos hj1, Array.getElem?_toList]
  simp [World.cell?, h5]
theorem row_le {W : World} {B e sz n c : Nat} {a : Option Addr} {xs : List Value} (h : W.ownsRow B e sz (.slice a n c) n xs) : n ≤ c := by
 obtain ⟨h1, h2⟩ := h
 rcases h2 with ⟨h2, h3⟩ | ⟨g, cap, cur, h3, h4, h5, h6, h7, h8, h9⟩
 ·omega
 ·cases h3
  exact h6
theorem row_cut {W : World} {B e n m c : Nat} {a : Option Addr} {xs : List Value} (h : W.ownsRow B e 1 (.slice a n c) n xs) (hm : m ≤ n) : W.ownsRow B e 1 (.slice a m c) m (xs.take m) := by
 obtain ⟨h1, h2⟩ := h
 refine ⟨by rw [List.length_take]; omega, ?_⟩
 rcases h2 with ⟨h2, h3⟩ | ⟨g, cap, cur, h3, h4, h5, h6, h7, h8, h9⟩
 ·cases h2
  exact .inl ⟨by rw [show m = 0 by omega], by omega⟩
 ·cases h3
  refine .inr ⟨g, c, cur, rfl, h4, h5, by omega, h7, h8, ?_⟩
  rw [← h9, List.take_take]
  congr 1
  omega
end Go.Proofs.YtjeadhfponlnnaaGreatDoor
set_option linter.unusedSimpArgs false
set_option linter.unusedVariables false
namespace Go.Proofs.YtjeadhfponlnnaaGreatDoor
open Go.RowKit Go.Pur Go.Clerk
open Go.Abs
set_option maxRecDepth 1000000
set_option maxHeartbeats 8000000
theorem tell_full (o : Nat) (S : Off) (line : Tx) (w : World) (hO : OffAt w o S) (hE : Env w) (h16 : 16 ≤ o) (hl : line.length ≤ 100000) (x : Ord) (T : TypeId) (v : Value) (hx : ordV (some x) = .iface T v) (hp : parse line = (some x, 0)) (h0 : S.lines.length = 150) :
  Calls Tryz.prog 18 #[ptrV o, sV line] w fun e w' => e = .returned (nV 19) ∧ OffAt w' o S ∧ But (· = o) w.heap.size w w' := by
 have mixed : Tryz.prog.follows .mixedOrders = true := by kernel_rfl
 have HO := hidC hO
 have hol := hO.lt
 obtain ⟨now, pv, lv, ps, h1, h2, h3, h4, h5, h6⟩ := hO
 obtain ⟨la, lc, rfl⟩ := row_slice h5
 rw [h0] at h1
 have HI := hidC (fun W (hW : Below w.heap.size w W) => invalid_calls o now W (off_cells ((hW.block o hol).trans h1)).1)
 have HP : Hid (∀ W, Below w.heap.size w W → Calls Tryz.prog 50 #[sV line] W fun e W' => e = .returned (.tuple #[.iface T v, .int .i64 0]) ∧ Below W.heap.size W W') := hidC (fun W hW => by have h := parsed_calls line W (hE.below hW hE.size) hl; rw [hp] at h; unfold OrP at h; rw [hx] at h; exact h)
 clear hp hE h2 h3 h4 h5 h6 h0 hx
 have hmf : ∀ (fn : Fn) (first cap : Array Value) (w : World), (Instr.makeFunc fn first cap).run Tryz.prog w = .ok (.func fn first cap) w := fun _ _ _ _ => rfl
 go_enter_defers Tryz.func18, Tryz.ntmps18
 go_wp2_with (go_at_call 49; refine (HI.out _ (((Below.refl _ _).alloc (Nat.le_refl _) _).alloc (by simp) _)).mono ?_; rintro e wa ⟨rfl, rfl⟩)
 go_wp2_with (go_at_call 50; refine (HP.out _ (((Below.refl _ _).alloc (Nat.le_refl _) _).alloc (by simp) _)).mono ?_; rintro e w1 ⟨rfl, hB1⟩; have hBx := hidC (boxes_of hB1); clear hB1; obtain ⟨c2, z2⟩ := one_cell hBx.out.t2; obtain ⟨c4, z4⟩ := one_cell hBx.out.t4; obtain ⟨co0, co1, co2, zo⟩ := off_cells ((hBx.out.below.block o hol).trans h1); have n4 : ¬ o = w.heap.size + 1 := by omega)
 have hB := hBx.out.below
 refine ⟨_, by simp [results, Tryz.results18, go_sem, c4, z4]; rfl, ?_⟩
 have hB2 := (hB.setCell (by simp) (p := ⟨w.heap.size + 1, 0, none⟩) (.int .i64 0)).setCell (by simp) (p := ⟨w.heap.size + 1, 0, none⟩) (.int .i64 19)
 exact ⟨rfl, HO.out.below hB2, But.of hB2⟩
end Go.Proofs.YtjeadhfponlnnaaGreatDoor
set_option linter.unusedSimpArgs false
set_option linter.unusedVariables false
namespace Go.Proofs.YtjeadhfponlnnaaGreatDoor
open Go.RowKit Go.Pur Go.Clerk
open Go.Abs
set_option maxRecDepth 1000000
set_option maxHeartbeats 8000000
structure Boxes3 (w w2 : World) (o t7 now : Nat) : Prop where
 b2 : w2.heap[w.heap.size]? = some (.cells #[ptrV o] 25 (0, 0))
 b4 : w2.heap[w.heap.size + 1]? = some (.cells #[nV 0] 29 (0, 0))
 b7 : w2.heap[t7]? = some (.cells #[ptrV now] 56 (0, 0))
 lt7 : w.heap.size + 2 ≤ t7
 below : Below w.heap.size w w2
theorem one_set {W : World} {b : Nat} {x y : Value} {t : TypeId} (h : W.heap[b]? = some (.cells #[x] t (0, 0))) : (W.setCell ⟨b, 0, none⟩ y).heap[b]? = some (.cells #[y] t (0, 0)) := by
 simp only [World.setCell, Array.getElem?_modify, if_pos rfl, h, Option.map_some]
 rfl
theorem boxes3_of {w w1 : World} {o now : Nat} (h : Boxes w w1 o) (hs : w.heap.size + 2 ≤ w1.heap.size) : Boxes3 w ((w1.setCell ⟨w.heap.size + 1, 0, none⟩ (.int .i64 0)).alloc (.cells #[ptrV now] 56)) o w1.heap.size now := by
 have hz : (w1.setCell ⟨w.heap.size + 1, 0, none⟩ (.int .i64 0)).heap.size = w1.heap.size := by simp
 refine ⟨?_, ?_, ?_, hs, ?_⟩
 ·rw [heap_alloc_old _ _ (by rw [hz]; omega), Below.heap_setCell _ _ _ _ (by simp)]
  exact h.t2
 ·rw [heap_alloc_old _ _ (by rw [hz]; omega)]
  exact one_set h.t4
 ·have := heap_alloc_new (w1.setCell ⟨w.heap.size + 1, 0, none⟩ (.int .i64 0)) (.cells #[ptrV now] 56)
  rw [hz] at this
  exact this
 ·exact (h.below.setCell (by simp) _).alloc (by rw [hz]; omega) _
structure Mid (w w4 : World) (o t7 now q m : Nat) (pv lv : Value) (d : Desk) : Prop where
 b2 : w4.heap[w.heap.size]? = some (.cells #[ptrV o] 25 (0, 0))
 b4 : w4.heap[w.heap.size + 1]? = some (.cells #[nV 0] 29 (0, 0))
 b7 : w4.heap[t7]? = some (.cells #[ptrV now] 56 (0, 0))
 lt7 : w.heap.size + 2 ≤ t7
 ltm : t7 < m
 off : w4.heap[o]? = some (.cells #[ptrV q, pv, lv] 59 (0, 0))
 desk : DeskAt w4 m q d
 but : But (· = o) w.heap.size w w4
theorem off_set {W : World} {o now q : Nat} {pv lv : Value} (h : W.heap[o]? = some (.cells #[ptrV now, pv, lv] 59 (0, 0))) : (W.setCell ⟨o, 0, none⟩ (ptrV q)).heap[o]? = some (.cells #[ptrV q, pv, lv] 59 (0, 0)) := by
 simp only [World.setCell, Array.getElem?_modify, if_pos rfl, h, Option.map_some]
 rfl
theorem but_set {W : World} {o n : Nat} {x : Value} : But (· = o) n W (W.setCell ⟨o, 0, none⟩ x) := ⟨rfl, rfl, rfl, by simp, fun k _ hk => Below.heap_setCell _ _ _ _ hk⟩
theorem mid_of {w w2 w3 : World} {o t7 now q : Nat} {pv lv : Value} {d : Desk} (h : Boxes3 w w2 o t7 now) (h1 : w.heap[o]? = some (.cells #[ptrV now, pv, lv] 59 (0, 0))) (hb : Below w2.heap.size w2 w3) (hd : DeskAt w3 w2.heap.size q d) :
  Mid w (w3.setCell ⟨o, 0, none⟩ (ptrV q)) o t7 now q w2.heap.size pv lv d := by
 have hol : o < w.heap.size := (Array.getElem?_eq_some_iff.1 h1).1
 have l2 : w.heap.size < w2.heap.size := (Array.getElem?_eq_some_iff.1 h.b2).1
 have l4 : w.heap.size + 1 < w2.heap.size := (Array.getElem?_eq_some_iff.1 h.b4).1
 have l7 : t7 < w2.heap.size := (Array.getElem?_eq_some_iff.1 h.b7).1
 have g7 := h.lt7
 have h3 : w3.heap[o]? = some (.cells #[ptrV now, pv, lv] 59 (0, 0)) := (hb.block o (by omega)).trans ((h.below.block o hol).trans h1)
 have hX : Ofs w3 59 (· = o) := fun k hk => by
  subst hk
  unfold cellTy
  simp only [h3]
 refine ⟨?_, ?_, ?_, h.lt7, l7, off_set h3, hd.but (but_set (n := w3.heap.size)) (Nat.le_refl _) hX, ?_⟩
 ·rw [Below.heap_setCell _ _ _ _ (by show w.heap.size ≠ o; omega), hb.block _ l2]; exact h.b2
 ·rw [Below.heap_setCell _ _ _ _ (by show w.heap.size + 1 ≠ o; omega), hb.block _ l4]; exact h.b4
 ·rw [Below.heap_setCell _ _ _ _ (by show t7 ≠ o; omega), hb.block _ l7]; exact h.b7
 ·exact ((But.of (h.below.trans (hb.mono (by omega))) : But (· = o) w.heap.size w w3)).trans but_set
theorem set_far0 {W : World} {a b i : Nat} {x : Option Value} {y : Value} (h : W.cell? ⟨a, i, none⟩ = x) (hn : a ≠ b) : (W.setCell ⟨b, 0, none⟩ y).cell? ⟨a, i, none⟩ = x := by
 rw [← h]
 exact World.cell?_of_block (Below.heap_setCell _ _ _ _ hn)
theorem off_back {w w' : World} {o : Nat} {S : Off} (h : OffAt w o S) (he : w'.heap[o]? = w.heap[o]?) (hb : But (· = o) w.heap.size w w') : OffAt w' o S :=
 h.but (X := fun _ => False) (n := w.heap.size) ⟨hb.os, hb.tape, hb.output, hb.size, fun k hk _ => by
  by_cases hko : k = o
  ·rw [hko]; exact he
  ·exact hb.block k hk hko⟩ (Nat.le_refl _) (fun _ h => h.elim) (fun h => h)
theorem tell_refused (o n k : Nat) (d' : Desk) (S : Off) (line : Tx) (w : World) (hO : OffAt w o S) (hE : Env w) (h16 : 16 ≤ o) (hl : line.length ≤ 100000) (x : Ord) (T : TypeId) (v : Value) (K : FuncId) (hR : doO x S.now = (k + 1, d')) (hx : ordV (some x) = .iface T v) (hp : parse line = (some x, 0)) (h0 : S.lines.length = n) (hn : n ≤ 149) (hvl : S.now.vols.length ≤ 1000)
  (hna : ∀ w, (nilAhead 403 T v "headword/clerk.do").run Tryz.prog w = .ok (some false) w)
  (hme : ∀ w, (method 403 T v "headword/clerk.do").run Tryz.prog w = .ok (K, v) w)
  (hcf : ∀ args w, (callFunc K args).run Tryz.prog w = .ok (.enter K args) w)
  (hK : ∀ W m q, DeskAt W m q S.now → Env W → Calls Tryz.prog K #[v, ptrV q] W fun e W' => DoP W m q (doO x S.now) e W') :
  Calls Tryz.prog 18 #[ptrV o, sV line] w fun e w' => e = .returned (nV (k + 1)) ∧ OffAt w' o S ∧ But (· = o) w.heap.size w w' := by
 have mixed : Tryz.prog.follows .mixedOrders = true := by kernel_rfl
 have HO := hidC hO
 have hol := hO.lt
 obtain ⟨now, pv, lv, ps, h1, h2, h3, h4, h5, h6⟩ := hO
 obtain ⟨la, lc, rfl⟩ := row_slice h5
 rw [h0] at h1
 have HI := hidC (fun W (hW : Below w.heap.size w W) => invalid_calls o now W (off_cells ((hW.block o hol).trans h1)).1)
 have HP : Hid (∀ W, Below w.heap.size w W → Calls Tryz.prog 50 #[sV line] W fun e W' => e = .returned (.tuple #[.iface T v, .int .i64 0]) ∧ Below W.heap.size W W') := hidC (fun W hW => by have h := parsed_calls line W (hE.below hW hE.size) hl; rw [hp] at h; unfold OrP at h; rw [hx] at h; exact h)
 have HC := hidC (fun W (hW : Below w.heap.size w W) => clone_calls now S.now W (h2.below hW) hvl)
 have h150 : ((n : Int) == 150) = false := beq_eq_false_iff_ne.2 (by omega)
 have h151 : ¬ n = 150 := by omega
 rw [hR] at hK
 have HK := hidC hK
 have hk0 : (((k + 1 : Nat) : Int) != 0) = true := bne_iff_ne.2 (by omega)
 have HO1 := hidC h1
 have HE := hidC hE
 clear hp hE h2 h3 h4 h5 h6 h0 hx hK hvl
 have hmf : ∀ (fn : Fn) (first cap : Array Value) (w : World), (Instr.makeFunc fn first cap).run Tryz.prog w = .ok (.func fn first cap) w := fun _ _ _ _ => rfl
 go_enter_defers Tryz.func18, Tryz.ntmps18
 go_wp2_with (go_at_call 49; refine (HI.out _ (((Below.refl _ _).alloc (Nat.le_refl _) _).alloc (by simp) _)).mono ?_; rintro e wa ⟨rfl, rfl⟩)
 go_wp2_with (go_at_call 50; refine (HP.out _ (((Below.refl _ _).alloc (Nat.le_refl _) _).alloc (by simp) _)).mono ?_; rintro e w1 ⟨rfl, hB1⟩; have hsz := hB1.size; have hBx := hidC (boxes_of hB1); clear hB1; obtain ⟨c2, z2⟩ := one_cell hBx.out.t2; obtain ⟨c4, z4⟩ := one_cell hBx.out.t4; obtain ⟨co0, co1, co2, zo⟩ := off_cells ((hBx.out.below.block o hol).trans h1); have n4 : ¬ o = w.heap.size + 1 := by omega)
 have h2s : w.heap.size + 2 ≤ w1.heap.size := by simpa using hsz
 have hB3 := hidC (boxes3_of (now := now) hBx.out h2s)
 obtain ⟨t7, ht7⟩ : ∃ t, w1.heap.size = t := ⟨_, rfl⟩
 obtain ⟨w2, hw2⟩ : ∃ x, (w1.setCell ⟨w.heap.size + 1, 0, none⟩ (.int .i64 0)).alloc (.cells #[ptrV now] 56) = x := ⟨_, rfl⟩
 rw [hw2] at hB3
 show Code.wp _ _ _ _ ((w1.setCell ⟨w.heap.size + 1, 0, none⟩ (.int .i64 0)).alloc (.cells #[ptrV now] 56))
 rw [hw2]
 rw [ht7] at hB3 h2s ⊢
 clear hw2 c2 z2 c4 z4 co0 co1 co2 zo hBx ht7 hsz
 obtain ⟨c2, z2⟩ := one_cell hB3.out.b2
 obtain ⟨c4, z4⟩ := one_cell hB3.out.b4
 obtain ⟨c7, z7⟩ := one_cell hB3.out.b7
 obtain ⟨co0, co1, co2, zo⟩ := off_cells ((hB3.out.below.block o hol).trans HO1.out)
 have l2 : w.heap.size < w2.heap.size := (Array.getElem?_eq_some_iff.1 hB3.out.b2).1
 have l7 : t7 < w2.heap.size := (Array.getElem?_eq_some_iff.1 hB3.out.b7).1
 have Hk : Hid (∀ W, Below w2.heap.size w2 W → W.cell? ⟨w.heap.size, 0, none⟩ = some (ptrV o) ∧ W.cell? ⟨t7, 0, none⟩ = some (ptrV now)) := hidC fun W hW => ⟨(hW.cell (p := ⟨w.heap.size, 0, none⟩) l2).trans c2, (hW.cell (p := ⟨t7, 0, none⟩) l7).trans c7⟩
 have HL : Hid (∀ W, Below w2.heap.size w2 W → W.cell? ⟨o, 0, none⟩ = some (ptrV now) ∧ W.frozen? ⟨o, 0, none⟩ = false) := hidC fun W hW => ⟨(hW.cell (p := ⟨o, 0, none⟩) (by show o < _; omega)).trans co0, (hW.frozen (p := ⟨o, 0, none⟩) (by show o < _; omega)).trans (zo 0)⟩
 have n2 : ¬ o = w.heap.size := by omega
 have n7 : ¬ o = t7 := by omega
 clear co1 co2 z7 z2
 go_region_held3 (fun w' => w'.cell? ⟨w.heap.size, 0, none⟩ = some (ptrV o) ∧ w'.cell? ⟨t7, 0, none⟩ = some (ptrV now)) (first | exact Hk.out _ (by assumption) | exact Hk.out _ (Below.refl _ _).drew | go_keep)
  (first | (go_at_call 51; refine (HC.out _ (by first | exact hB3.out.below | exact hB3.out.below.drew | exact hB3.out.below.drew.drew)).mono ?_; rintro e w3 ⟨q, rfl, hq, hb3⟩; have hb4 : Below w2.heap.size w2 w3 := ((Below.refl _ _).drew).trans hb3; have ⟨hl3, hl4⟩ := HL.out _ hb4))
 go_wp2_with fail
 have hM := hidC (mid_of hB3.out HO1.out hb4 hq)
 obtain ⟨m, hm⟩ : ∃ m, w2.heap.size = m := ⟨_, rfl⟩
 obtain ⟨w4, hw4⟩ : ∃ x, w3.setCell ⟨o, 0, none⟩ (ptrV q) = x := ⟨_, rfl⟩
 rw [hw4] at hM
 rw [hm] at hM
 show Code.wp _ _ _ _ (w3.setCell ⟨o, 0, none⟩ (ptrV q))
 rw [hw4]
 clear hw4 hm hl3 hl4 hq hb3 hb4 hB3 c2 c4 c7 z4 co0 zo l2 l7 Hk HL HC HP HI h1
 obtain ⟨c2, z2⟩ := one_cell hM.out.b2
 obtain ⟨c4, z4⟩ := one_cell hM.out.b4
 obtain ⟨c7, z7⟩ := one_cell hM.out.b7
 obtain ⟨co0, co1, co2, zo⟩ := off_cells hM.out.off
 have l7 := hM.out.lt7
 have lm := hM.out.ltm
 have Hk : Hid (∀ W, Below m w4 W → W.cell? ⟨w.heap.size, 0, none⟩ = some (ptrV o) ∧ W.cell? ⟨o, 0, none⟩ = some (ptrV q)) := hidC fun W hW => ⟨(hW.cell (p := ⟨w.heap.size, 0, none⟩) (by show w.heap.size < m; omega)).trans c2, (hW.cell (p := ⟨o, 0, none⟩) (by show o < m; omega)).trans co0⟩
 have HL : Hid (∀ W, Below m w4 W → W.cell? ⟨w.heap.size + 1, 0, none⟩ = some (nV 0) ∧ W.frozen? ⟨w.heap.size + 1, 0, none⟩ = false) := hidC fun W hW => ⟨(hW.cell (p := ⟨w.heap.size + 1, 0, none⟩) (by show w.heap.size + 1 < m; omega)).trans c4, (hW.frozen (p := ⟨w.heap.size + 1, 0, none⟩) (by show w.heap.size + 1 < m; omega)).trans z4⟩
 clear co1 co2 z7 z2 c7 zo z4
 have Hd : Hid (DeskAt w4.drew m q S.now) := hidC (hM.out.desk.below ((Below.refl _ _).drew))
 have HEn : Hid (Env w4.drew) := hidC (HE.out.of hM.out.but.size fun k hk => hM.out.but.block k (by have := HE.out.size; omega) (by omega))
 go_region_held3 (fun w' => w'.cell? ⟨w.heap.size, 0, none⟩ = some (ptrV o) ∧ w'.cell? ⟨o, 0, none⟩ = some (ptrV q)) (first | exact Hk.out _ (by assumption) | exact Hk.out _ (Below.refl _ _).drew | exact ⟨set_far0 (Hk.out _ (by assumption)).1 (by omega), set_far0 (Hk.out _ (by assumption)).2 (by omega)⟩ | go_keep)
  (first | ((try go_simp); refine (HK.out _ _ _ Hd.out HEn.out).mono ?_; rintro e w5 ⟨rfl, hb5, hd5⟩; have hb6 : Below m w4 w5 := ((Below.refl _ _).drew).trans hb5; have ⟨hl3, hl4⟩ := HL.out _ hb6))
 go_wp2_with fail
 have k2 := hM.out.but.block
 have g2 : w5.heap[w.heap.size]? = some (.cells #[ptrV o] 25 (0, 0)) := (hb6.block _ (by omega)).trans hM.out.b2
 have g4 : w5.heap[w.heap.size + 1]? = some (.cells #[nV 0] 29 (0, 0)) := (hb6.block _ (by omega)).trans hM.out.b4
 have g7 : w5.heap[t7]? = some (.cells #[ptrV now] 56 (0, 0)) := (hb6.block _ lm).trans hM.out.b7
 have gO := (hb6.block o (by omega)).trans hM.out.off
 obtain ⟨w6, hw6⟩ : ∃ y, ((w5.setCell ⟨w.heap.size + 1, 0, none⟩ (nV (k + 1))).setCell ⟨w.heap.size + 1, 0, none⟩ (nV (k + 1))) = y := ⟨_, rfl⟩
 have p4 : w6.heap[w.heap.size + 1]? = some (.cells #[nV (k + 1)] 29 (0, 0)) := by rw [← hw6]; exact one_set (one_set g4)
 have pB : ∀ b, b ≠ w.heap.size + 1 → w6.heap[b]? = w5.heap[b]? := fun b hb => by rw [← hw6, Below.heap_setCell _ _ _ _ hb, Below.heap_setCell _ _ _ _ hb]
 have pS : w5.heap.size ≤ w6.heap.size := by rw [← hw6]; simp
 have pO : w6.os = w5.os ∧ w6.tape = w5.tape ∧ w6.output = w5.output := by rw [← hw6]; exact ⟨rfl, rfl, rfl⟩
 show bodyPostD _ _ _ _ _ ((w5.setCell ⟨w.heap.size + 1, 0, none⟩ (nV (k + 1))).setCell ⟨w.heap.size + 1, 0, none⟩ (nV (k + 1)))
 rw [hw6]
 have q4 := one_cell p4
 have q2 := one_cell ((pB _ (by omega)).trans g2)
 have q7 := one_cell ((pB _ (by omega)).trans g7)
 have qo := (pB o (by omega)).trans gO
 have qc := off_cells qo
 have hbut : But (· = o) w.heap.size w (w6.setCell ⟨o, 0, none⟩ (ptrV now)) := by
  refine (hM.out.but.trans (But.of (hb6.mono (by omega)))).trans (But.trans (b := w6) ⟨pO.1, pO.2.1, pO.2.2, pS, fun b hb _ => pB b (by omega)⟩ but_set)
 refine leaves_cons (f := 52) (args := #[.pointer (some ⟨w.heap.size + 1, 0, none⟩), .pointer (some ⟨t7, 0, none⟩), .pointer (some ⟨w.heap.size, 0, none⟩)]) (by simp) (by simp [go_sem]) ?_
 refine (tail52_err (w.heap.size + 1) t7 w.heap.size o now k (ptrV q) w6 q4.1 q7.1 q2.1 qc.1 (qc.2.2.2 0)).mono ?_
 rintro e u' w'' ⟨rfl, rfl, rfl⟩
 have q8 := set_far0 (y := ptrV now) q4.1 (b := o) (by omega)
 refine ⟨_, by simp [results, Tryz.results18, go_sem, q8], rfl, ?_, hbut⟩
 exact off_back HO.out ((off_set qo).trans HO1.out.symm) hbut
end Go.Proofs.YtjeadhfponlnnaaGreatDoor
set_option linter.unusedSimpArgs false
set_option linter.unusedVariables false
namespace Go.Proofs.YtjeadhfponlnnaaGreatDoor
open Go.RowKit Go.Pur Go.Clerk
open Go.Abs
set_option maxRecDepth 100000
theorem cellTy_of {W W' : World} {k : Nat} (h : W'.heap[k]? = W.heap[k]?) : cellTy W' k = cellTy W k := by unfold cellTy; rw [h]
theorem cellTy_cells {W : World} {k : Nat} {cs : Array Value} {t : TypeId} {f : Nat × Nat} (h : W.heap[k]? = some (.cells cs t f)) : cellTy W k = some t := by unfold cellTy; simp only [h]
theorem but_cell {X : Nat → Prop} {n : Nat} {W : World} {a : Addr} {x : Value} (h : X a.block ∨ n ≤ a.block) : But X n W (W.setCell a x) :=
 ⟨rfl, rfl, rfl, by simp, fun k hk hX => Below.heap_setCell _ _ _ _ (by
  rintro rfl
  rcases h with h | h
  ·exact hX h
  ·omega)⟩
theorem not_map2 {W : World} {t : TypeId} {X : Nat → Prop} (hX : Ofs W t X) {b : Nat} {es : Array MapEntry} {c : Nat} (h : W.heap[b]? = some (.map es c)) : ¬ X b := fun hx => by
 have := hX b hx
 unfold cellTy at this
 rw [h] at this
 cases this
theorem desk_ofs {t : TypeId} (ht : t ≠ 98 ∧ t ≠ 9 ∧ t ≠ 76 ∧ t ≠ 56) {W W' : World} {n p : Nat} {d : Desk} {X : Nat → Prop} {k : Nat} (h : DeskAt W n p d) (hb : But X k W W') (hn : W.heap.size ≤ k) (hX : Ofs W t X) : DeskAt W' n p d := by
 have hl := h.lt
 obtain ⟨me, ma, vv, h1, h2, h3, h4, h5, h6, h7, h8⟩ := h
 have l6 := h6.lt
 have l7 := h7.lt
 have hF : Far W X := fun k hx u hu => by
  have := hX k hx
  rw [hu] at this
  cases this
  exact ⟨ht.2.1, ht.2.2.1, ht.2.2.2⟩
 refine ⟨me, ma, vv, (hb.block p (by omega) (ofs_ne hX (u := 98) (by unfold cellTy; simp only [h1]) ht.1)).trans h1, h2, h3, h4, h5, ?_, ?_, h8.but hb hn hF⟩
 ·obtain ⟨m, c, e, h⟩ := h6
  exact ⟨m, c, (hb.block me (by omega) (not_map2 hX e)).trans e, h⟩
 ·obtain ⟨m, c, e, h⟩ := h7
  exact ⟨m, c, (hb.block ma (by omega) (not_map2 hX e)).trans e, h⟩
theorem row_cell {W : World} {B e size n : Nat} {v : Value} {xs : List Value} (h : W.ownsRow B e size v n xs) {a : Addr} {x : Value} {t : TypeId} (ht : cellTy W a.block = some t) (hne : t ≠ e) : (W.setCell a x).ownsRow B e size v n xs :=
 row_eqb h fun k hk => Below.heap_setCell _ _ _ _ (by
  rintro rfl
  have := (row_ty h hk).1
  rw [ht] at this
  exact hne (Option.some.inj this))
theorem row_below {W W' : World} {B e size n : Nat} {v : Value} {xs : List Value} (h : W.ownsRow B e size v n xs) (hb : Below W.heap.size W W') : W'.ownsRow B e size v n xs :=
 row_eqb h fun k hk => hb.block k (row_ty h hk).2
theorem taken_end (o n now q N m B7 B9 : Nat) (S : Off) (line : Tx) (d' : Desk) (w w4 w5 w6 w7 w8 w9 wA wB : World) (pv lv va vb : Value) (pa la a7 a9 : Option Addr) (pc lc c7 c9 : Nat) (ps : List Value)
  (hN : w.heap.size = N) (hoN : o < N) (h1 : w.heap[o]? = some (.cells #[ptrV now, pv, lv] 59 (0, 0)))
  (h2 : DeskAt w 0 now S.now) (h4 : Desks w S.past ps) (hlen : S.past.length = n) (hlen2 : S.lines.length = n)
  (b4 : But (· = o) N w w4) (b5 : Below m w4 w5) (hm : N ≤ m) (e6 : w5.setCell ⟨N + 1, 0, none⟩ va = w6) (g4 : cellTy w5 (N + 1) = some 29) (gO : cellTy w5 o = some 59)
  (b7 : Below w6.heap.size w6 w7) (r7 : w7.ownsRow B7 56 1 (.slice a7 (n + 1) c7) (n + 1) (ps ++ [ptrV now]))
  (e8 : w7.setCell ⟨o, 1, none⟩ (.slice a7 (n + 1) c7) = w8)
  (b9 : Below w8.heap.size w8 w9) (r9 : w9.ownsRow B9 9 1 (.slice a9 (n + 1) c9) (n + 1) (S.lines.map sV ++ [sV line]))
  (eA : w9.setCell ⟨o, 2, none⟩ (.slice a9 (n + 1) c9) = wA) (eB : wA.setCell ⟨N + 1, 0, none⟩ vb = wB)
  (hd5 : DeskAt w5 m q d') (uA : cellTy w9 (N + 1) = some 29) (u9 : cellTy w9 o = some 59) (u7 : cellTy w7 o = some 59) (uB : cellTy wA (N + 1) = some 29)
  (vO : wB.heap[o]? = some (.cells #[ptrV q, .slice a7 (n + 1) c7, .slice a9 (n + 1) c9] 59 (0, 0))) :
  OffAt wB o ⟨d', S.past ++ [S.now], S.lines ++ [line]⟩ ∧ But (· = o) N w wB := by
 have k5 : But (· = o) N w w5 := b4.trans (But.of (b5.mono (by omega)))
 have k6 : But (· = o) N w w6 := by rw [← e6]; exact k5.trans (but_cell (.inr (by show N ≤ N + 1; omega)))
 have k7 : But (· = o) N w w7 := k6.trans (But.of (b7.mono (by have := k6.size; omega)))
 have k8 : But (· = o) N w w8 := by rw [← e8]; exact k7.trans (but_cell (.inl rfl))
 have k9 : But (· = o) N w w9 := k8.trans (But.of (b9.mono (by have := k8.size; omega)))
 have kA : But (· = o) N w wA := by rw [← eA]; exact k9.trans (but_cell (.inl rfl))
 have kB : But (· = o) N w wB := by rw [← eB]; exact kA.trans (but_cell (.inr (by show N ≤ N + 1; omega)))
 have hX : Ofs w 59 (· = o) := fun k hk => by subst hk; exact cellTy_cells h1
 have d6 : DeskAt w6 m q d' := by
  rw [← e6]
  exact desk_ofs (t := 29) (by decide) (X := (· = N + 1)) (k := w5.heap.size) hd5 (but_cell (.inl rfl)) (Nat.le_refl _) (fun k hk => by subst hk; exact g4)
 have d7 : DeskAt w7 m q d' := d6.below b7
 have d8 : DeskAt w8 m q d' := by
  rw [← e8]
  exact d7.but (X := (· = o)) (k := w7.heap.size) (but_cell (.inl rfl)) (Nat.le_refl _) (fun k hk => by subst hk; exact u7)
 have d9 : DeskAt w9 m q d' := d8.below b9
 have dA : DeskAt wA m q d' := by
  rw [← eA]
  exact d9.but (X := (· = o)) (k := w9.heap.size) (but_cell (.inl rfl)) (Nat.le_refl _) (fun k hk => by subst hk; exact u9)
 have dB : DeskAt wB m q d' := by
  rw [← eB]
  exact desk_ofs (t := 29) (by decide) (X := (· = N + 1)) (k := wA.heap.size) dA (but_cell (.inl rfl)) (Nat.le_refl _) (fun k hk => by subst hk; exact uB)
 have p8 : w8.ownsRow B7 56 1 (.slice a7 (n + 1) c7) (n + 1) (ps ++ [ptrV now]) := by rw [← e8]; exact row_cell r7 u7 (by decide)
 have p9 := row_below p8 b9
 have pA : wA.ownsRow B7 56 1 (.slice a7 (n + 1) c7) (n + 1) (ps ++ [ptrV now]) := by rw [← eA]; exact row_cell p9 u9 (by decide)
 have pB : wB.ownsRow B7 56 1 (.slice a7 (n + 1) c7) (n + 1) (ps ++ [ptrV now]) := by rw [← eB]; exact row_cell pA uB (by decide)
 have lA : wA.ownsRow B9 9 1 (.slice a9 (n + 1) c9) (n + 1) (S.lines.map sV ++ [sV line]) := by rw [← eA]; exact row_cell r9 u9 (by decide)
 have lB : wB.ownsRow B9 9 1 (.slice a9 (n + 1) c9) (n + 1) (S.lines.map sV ++ [sV line]) := by rw [← eB]; exact row_cell lA uB (by decide)
 refine ⟨⟨q, _, _, ps ++ [ptrV now], vO, dB.mono (Nat.zero_le _), ?_, ?_, ?_, by simp [hlen, hlen2]⟩, kB⟩
 ·have : (S.past ++ [S.now]).length = n + 1 := by simp [hlen]
  rw [this]
  exact row_mono pB (Nat.zero_le _)
 ·exact (h4.but kB (by omega) hX).snoc (h2.but kB (by omega) hX)
 ·have : (S.lines ++ [line]).length = n + 1 := by simp [hlen2]
  unfold TextsAt
  rw [this, List.map_append]
  exact row_mono lB (Nat.zero_le _)
end Go.Proofs.YtjeadhfponlnnaaGreatDoor

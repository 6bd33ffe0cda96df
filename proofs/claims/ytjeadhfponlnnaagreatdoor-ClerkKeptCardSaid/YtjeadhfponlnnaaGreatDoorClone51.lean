/-
  A desk is copied.
  A desk is copied: the desk.
  Conditions: none; definitions and lemmas.
-/
import Derived.Test.YtjeadhfponlnnaaGreatDoorDo1
import Derived.Test.YtjeadhfponlnnaaGreatDoorShelf14
import Derived.Shelf.Slices.Clone
set_option linter.unusedSimpArgs false
set_option linter.unusedVariables false
namespace Go.Proofs.YtjeadhfponlnnaaGreatDoor
open Go.RowKit Go.Pur Go.Clerk
open Go.Abs
set_option maxRecDepth 1000000
set_option maxHeartbeats 8000000
def ClP (W : World) (t : TypeId) (size n : Nat) (xs : List Value) (e : Ending) (W' : World) : Prop := ∃ v', e = .returned v' ∧ W'.ownsRow W.heap.size t size v' n xs ∧ Below W.heap.size W W'
theorem clone84 (W : World) (B : Nat) (v : Value) (n : Nat) (xs : List Value) (h : W.ownsRow B 76 4 v n xs) (h1c : ∀ u ∈ xs, u.oneCell' = true) (hn : n ≤ 1000) : Calls Tryz.prog 84 #[v] W fun e W' => ClP W 76 4 n xs e W' := by
 have mixed : Tryz.prog.follows .mixedOrders = true := by kernel_rfl
 have q61 : ∀ (w : World) (a : Option Addr) (n c n' c' : Nat), (binOp .eql 61 (.slice a n c) (.slice none n' c')).run Tryz.prog w = .ok (.bool a.isNone) w := fun w a n c n' c' => Lib.run_eql_slice_nil w _ _ a n c n' c' Tryz.underlying61
 obtain ⟨i0, hi, hz0, hz1, hz2⟩ := info_parts (show (Tryz.prog.info? 76).map (fun i => (i.zero, i.size, i.bytes)) = some (some (.agg #[.string ⟨#[]⟩, .slice none 0 0, .int .i64 0, .int .i64 0]), 4, 56) by kernel_rfl)
 obtain ⟨hl, ⟨rfl, rfl⟩ | ⟨g, cap, cur, rfl, hg, hb, hc1, hc2, hc3, hc4⟩⟩ := h
 ·have hx : xs = [] := List.eq_nil_of_length_eq_zero (by omega)
  subst hx
  go_enter Tryz.func84, Tryz.ntmps84
  go_wp2
  go_ret
  exact ⟨.slice none 0 0, rfl, World.ownsRow_nil _ _ _ _, Below.refl _ _⟩
 ·have A : Hid (∀ (j : Nat) u, xs[j]? = some u → W.cell? ⟨g, j, none⟩ = some u) := hidC fun j u hu => by
   rw [← hc4, List.getElem?_take] at hu
   split at hu
   ·simp only [World.cell?, hb]
    simpa using hu
   ·cases hu
  have Hl := hidC hl
  have Hi := hidC hi
  have H1c := hidC h1c
  have hcl : cur.size ≤ cur.size := Nat.le_refl _
  clear hb hc3 hc4 hl hi h1c hcl hg
  go_enter Tryz.func84, Tryz.ntmps84
  go_wp2_with (at_builtin; refine wpList_append_own _ rfl _ _ 61 rfl W.heap.size 76 i0 _ 4 56 Tryz.underlying61 Hi.out hz0 hz1 hz2 rfl (by decide) _ _ _ rfl (World.ownsRow_made W #[] 0 (Nat.le_refl _) (Nat.zero_le _) rfl) ⟨g, 0, none⟩ n cap xs rfl Hl.out ?qc2 ?qc3 ?qc4 ?qc5 ?qc6 ?_)
  case qc2 =>
   intro j u hj
   rw [Addr.add_lit, Nat.zero_add]
   exact Lib.cell?_alloc_some _ (A.out j u hj)
  case qc3 => exact H1c.out
  case qc4 => unfold maxLen; omega
  case qc5 => omega
  case qc6 => simp
  intro v' w1 hown hgrow hnil
  have Hown := hidC hown
  have Hgr := hidC hgrow
  clear hown hgrow hnil
  go_wp2
  go_ret
  refine ⟨v', rfl, by simpa using Hown.out, ?_⟩
  exact ((Below.refl _ W).alloc (Nat.le_refl _) _).grown Hgr.out (by simp) (by intro k hk; simp [Value.ownBlock] at hk; omega)
theorem clone83 (W : World) (B : Nat) (v : Value) (n : Nat) (xs : List Value) (h : W.ownsRow B 56 1 v n xs) (h1c : ∀ u ∈ xs, u.oneCell' = true) (hn : n ≤ 1000) : Calls Tryz.prog 83 #[v] W fun e W' => ClP W 56 1 n xs e W' := by
 have mixed : Tryz.prog.follows .mixedOrders = true := by kernel_rfl
 have q57 : ∀ (w : World) (a : Option Addr) (n c n' c' : Nat), (binOp .eql 57 (.slice a n c) (.slice none n' c')).run Tryz.prog w = .ok (.bool a.isNone) w := fun w a n c n' c' => Lib.run_eql_slice_nil w _ _ a n c n' c' Tryz.underlying57
 obtain ⟨i0, hi, hz0, hz1, hz2⟩ := info_parts (show (Tryz.prog.info? 56).map (fun i => (i.zero, i.size, i.bytes)) = some (some (.pointer none), 1, 8) by kernel_rfl)
 obtain ⟨hl, ⟨rfl, rfl⟩ | ⟨g, cap, cur, rfl, hg, hb, hc1, hc2, hc3, hc4⟩⟩ := h
 ·have hx : xs = [] := List.eq_nil_of_length_eq_zero (by omega)
  subst hx
  go_enter Tryz.func83, Tryz.ntmps83
  go_wp2
  go_ret
  exact ⟨.slice none 0 0, rfl, World.ownsRow_nil _ _ _ _, Below.refl _ _⟩
 ·have A : Hid (∀ (j : Nat) u, xs[j]? = some u → W.cell? ⟨g, j, none⟩ = some u) := hidC fun j u hu => by
   rw [← hc4, List.getElem?_take] at hu
   split at hu
   ·simp only [World.cell?, hb]
    simpa using hu
   ·cases hu
  have Hl := hidC hl
  have Hi := hidC hi
  have H1c := hidC h1c
  clear hb hc3 hc4 hl hi h1c hg
  go_enter Tryz.func83, Tryz.ntmps83
  go_wp2_with (at_builtin; refine wpList_append_own _ rfl _ _ 57 rfl W.heap.size 56 i0 _ 1 8 Tryz.underlying57 Hi.out hz0 hz1 hz2 rfl (by decide) _ _ _ rfl (World.ownsRow_made W #[] 0 (Nat.le_refl _) (Nat.zero_le _) rfl) ⟨g, 0, none⟩ n cap xs rfl Hl.out ?qc2 ?qc3 ?qc4 ?qc5 ?qc6 ?_)
  case qc2 =>
   intro j u hj
   rw [Addr.add_lit, Nat.zero_add]
   exact Lib.cell?_alloc_some _ (A.out j u hj)
  case qc3 => exact H1c.out
  case qc4 => unfold maxLen; omega
  case qc5 => omega
  case qc6 => simp
  intro v' w1 hown hgrow hnil
  have Hown := hidC hown
  have Hgr := hidC hgrow
  clear hown hgrow hnil
  go_wp2
  go_ret
  refine ⟨v', rfl, by simpa using Hown.out, ?_⟩
  exact ((Below.refl _ W).alloc (Nat.le_refl _) _).grown Hgr.out (by simp) (by intro k hk; simp [Value.ownBlock] at hk; omega)
theorem clone72 (W : World) (v : Value) (l : List Tx) (h : TextsAt W v l) (hn : l.length ≤ 1000) : Calls Tryz.prog 72 #[v] W fun e W' => ClP W 9 1 l.length (l.map sV) e W' := by
 obtain ⟨hl, ⟨rfl, h0⟩ | ⟨g, cap, cur, rfl, hg, hb, hc1, hc2, hc3, hc4⟩⟩ := h
 ·have hx : l = [] := List.eq_nil_of_length_eq_zero h0
  subst hx
  refine (Tryz.slices_Clone_string_nil 0 0 W).mono ?_
  rintro e W' ⟨rfl, rfl⟩
  exact ⟨.slice none 0 0, rfl, World.ownsRow_nil _ _ _ _, Below.refl _ _⟩
 ·refine (Tryz.slices_Clone_string g 0 l.length cap (l.map bs) W (by simp) (by omega) (fun j hj => ?_)).mono ?_
  ·have hj' : j < l.length := by simpa using hj
   have e1 : cur.toList[j]? = some (sV l[j]) := by
    have h8 : (cur.toList.take (l.length * 1))[j]? = (l.map sV)[j]? := by rw [hc4]
    rw [List.getElem?_take, if_pos (by omega), List.getElem?_map, List.getElem?_eq_getElem hj'] at h8
    exact h8
   have e2 : (l.map bs).getD j ByteArray.empty = bs l[j] := by
    rw [List.getD_eq_getElem?_getD, List.getElem?_map, List.getElem?_eq_getElem hj']
    rfl
   rw [e2]
   simp only [World.cell?, hb, Nat.zero_add]
   simpa using e1
  ·rintro e W' ⟨v', rfl, h1, _, h2⟩
   refine ⟨v', rfl, ?_, h2⟩
   rw [List.take_of_length_le (by simp), List.map_map] at h1
   exact h1
end Go.Proofs.YtjeadhfponlnnaaGreatDoor
set_option linter.unusedSimpArgs false
set_option linter.unusedVariables false
namespace Go.Proofs.YtjeadhfponlnnaaGreatDoor
open Go.RowKit Go.Pur Go.Clerk
open Go.Abs
set_option maxRecDepth 1000000
set_option maxHeartbeats 8000000
def MpP {V : Type} (W : World) (vf : V → Value) (l : List (Tx × V)) (e : Ending) (W' : World) : Prop := ∃ b, e = .returned (.map (some b)) ∧ MapAt W' b vf l ∧ W.heap.size ≤ b ∧ b < W'.heap.size ∧ Below W.heap.size W W'
theorem clone102 {W : World} {b : Nat} {l : List (Tx × Ent)} (h : MapAt W b entV l) : Calls Tryz.prog 102 #[.map (some b)] W fun e W' => MpP W entV l e W' := by
 obtain ⟨m, c, h1, h2, h3⟩ := h
 refine (AnyW.maps_Clone Tryz.clone102 b _ c W h1).mono ?_
 rintro e W' ⟨rfl, rfl⟩
 exact ⟨_, rfl, ⟨m, c, heap_alloc_new _ _, h2, h3⟩, Nat.le_refl _, by simp, (Below.refl _ _).alloc (Nat.le_refl _) _⟩
theorem clone103 {W : World} {b : Nat} {l : List (Tx × Clerk.Acc)} (h : MapAt W b accV l) : Calls Tryz.prog 103 #[.map (some b)] W fun e W' => MpP W accV l e W' := by
 obtain ⟨m, c, h1, h2, h3⟩ := h
 refine (AnyW.maps_Clone Tryz.clone103 b _ c W h1).mono ?_
 rintro e W' ⟨rfl, rfl⟩
 exact ⟨_, rfl, ⟨m, c, heap_alloc_new _ _, h2, h3⟩, Nat.le_refl _, by simp, (Below.refl _ _).alloc (Nat.le_refl _) _⟩
theorem VolCells.one {W : World} {xs : List Vol} {cs : List Value} (h : VolCells W xs cs) : ∀ u ∈ cs, u.oneCell' = true := by
 induction h with
 | nil => intro u h; cases h
 | cons x w xs cs h1 _ ih =>
  intro u hu
  simp only [List.mem_cons] at hu
  rcases hu with rfl | rfl | rfl | rfl | hu
  ·rfl
  ·obtain ⟨_, ⟨rfl, _⟩ | ⟨_, _, _, rfl, _⟩⟩ := h1 <;> rfl
  ·rfl
  ·rfl
  ·exact ih u hu
theorem row_slice {W : World} {B e s n : Nat} {v : Value} {xs : List Value} (h : W.ownsRow B e s v n xs) : ∃ a cap, v = .slice a n cap := by
 rcases h.2 with ⟨rfl, rfl⟩ | ⟨g, cap, cur, rfl, _⟩
 ·exact ⟨none, 0, rfl⟩
 ·exact ⟨_, cap, rfl⟩
theorem keep4 {W W' : World} {p n : Nat} {x0 x1 x2 x3 : Value} (h : W.cell? ⟨p, 0, none⟩ = some x0 ∧ W.cell? ⟨p, 1, none⟩ = some x1 ∧ W.cell? ⟨p, 2, none⟩ = some x2 ∧ W.cell? ⟨p, 3, none⟩ = some x3) (hb : Below n W W') (hp : p < n) :
  W'.cell? ⟨p, 0, none⟩ = some x0 ∧ W'.cell? ⟨p, 1, none⟩ = some x1 ∧ W'.cell? ⟨p, 2, none⟩ = some x2 ∧ W'.cell? ⟨p, 3, none⟩ = some x3 :=
 ⟨(hb.cell (p := ⟨p, 0, none⟩) hp).trans h.1, (hb.cell (p := ⟨p, 1, none⟩) hp).trans h.2.1, (hb.cell (p := ⟨p, 2, none⟩) hp).trans h.2.2.1, (hb.cell (p := ⟨p, 3, none⟩) hp).trans h.2.2.2⟩
def DkP (w : World) (d : Desk) (e : Ending) (w' : World) : Prop := ∃ p', e = .returned (ptrV p') ∧ DeskAt w' w.heap.size p' d ∧ Below w.heap.size w w'
theorem clone_calls (p : Nat) (d : Desk) (w : World) (hd : DeskAt w 0 p d) (hvl : d.vols.length ≤ 1000) : Calls Tryz.prog 51 #[ptrV p] w fun e w' => DkP w d e w' := by
 have mixed : Tryz.prog.follows .mixedOrders = true := by kernel_rfl
 obtain ⟨me, ma, vv, h1, h2, h3, h4, h5, h6, h7, cs, h8, h9⟩ := hd
 have hp : p < w.heap.size := (Array.getElem?_eq_some_iff.1 h1).1
 have hk4 := desk_cells h1
 have C1 : Hid (∀ W, Below w.heap.size w W → Calls Tryz.prog 102 #[.map (some me)] W fun e W' => MpP W entV (entL d.ents) e W') := hidC fun W hW => clone102 (h6.below hW h6.lt)
 have C2 : Hid (∀ W, Below w.heap.size w W → Calls Tryz.prog 103 #[.map (some ma)] W fun e W' => MpP W accV (accL d.accs) e W') := hidC fun W hW => clone103 (h7.below hW h7.lt)
 have C3 : Hid (∀ W, Below w.heap.size w W → Calls Tryz.prog 84 #[vv] W fun e W' => ClP W 76 4 d.vols.length cs e W') := hidC fun W hW => clone84 W 0 vv d.vols.length cs (row_eqb h9 fun k hk => hW.block k (h9.lt k hk).2) (VolCells.one h8) hvl
 have Hk := hidC hk4
 have H8 := hidC h8
 obtain ⟨e0, e1, e2, e3⟩ := hk4
 clear h1 h6 h7 h8 h9
 go_enter Tryz.func51, Tryz.ntmps51
 go_wp2_with fail
 go_region_held3 (fun w' => w'.cell? ⟨p, 0, none⟩ = some (.map (some me)) ∧ w'.cell? ⟨p, 1, none⟩ = some (.map (some ma)) ∧ w'.cell? ⟨p, 2, none⟩ = some vv ∧ w'.cell? ⟨p, 3, none⟩ = some (.int .u8 d.closed.toNat)) (first | exact keep4 Hk.out (by assumption) hp | go_keep)
  (first | (go_at_call 102; refine (C1.out _ (by first | exact Below.refl _ _ | exact (Below.refl _ _).drew | exact (Below.refl _ _).drew.drew)).mono ?_; rintro e wa ⟨b1, rfl, m1, l1, g1, r1⟩; have r1' : Below w.heap.size w wa := (Below.refl _ _).trans ⟨r1.os, r1.tape, r1.output, r1.size, r1.block⟩) | (go_at_call 103; refine (C2.out _ (by first | assumption | exact Below.drew (by assumption))).mono ?_; rintro e wb ⟨b2, rfl, m2, l2, g2, r2⟩; have r2' : Below w.heap.size w wb := r1'.trans (r2.mono (by first | exact r1'.size | exact r1'.size))) | (go_at_call 84; refine (C3.out _ (by first | assumption | exact Below.drew (by assumption))).mono ?_; rintro e wc ⟨v', rfl, o3, r3⟩; obtain ⟨a3, c3, rfl⟩ := row_slice o3; have r3' : Below w.heap.size w wc := r2'.trans (r3.mono r2'.size)))
 all_goals go_wp2
 all_goals go_ret
 have q2 : Below wa.heap.size wa wb := ⟨r2.os, r2.tape, r2.output, r2.size, r2.block⟩
 have q3 : Below wb.heap.size wb wc := ⟨r3.os, r3.tape, r3.output, r3.size, r3.block⟩
 have l1' : w.heap.size ≤ b1 := l1
 have l2' : wa.heap.size ≤ b2 := l2
 have hs1 : w.heap.size ≤ wa.heap.size := r1'.size
 have hs2 : wa.heap.size ≤ wb.heap.size := q2.size
 have hs3 : wb.heap.size ≤ wc.heap.size := q3.size
 have q4 : Below wc.heap.size wc (wc.alloc (.cells #[.map (some b1), .map (some b2), .slice a3 d.vols.length c3, .int .u8 d.closed.toNat] 98)) := (Below.refl _ _).alloc (Nat.le_refl _) _
 have q3' : wc.ownsRow wb.heap.size 76 4 (.slice a3 d.vols.length c3) d.vols.length cs := o3
 refine ⟨wc.heap.size, rfl, ⟨b1, b2, .slice a3 d.vols.length c3, heap_alloc_new _ _, by omega, l1', by omega, by omega, ?_, ?_, cs, ?_, ?_⟩, r3'.trans (q4.mono (by omega))⟩
 ·exact ((m1.below q2 g1).below q3 (by omega)).below q4 (by omega)
 ·exact (m2.below q3 g2).below q4 (by omega)
 ·exact (H8.out.but (But.of (X := fun _ => False) (r3'.trans (q4.mono (by omega)))) (Nat.le_refl _) (fun _ h => h.elim))
 ·exact row_mono (row_eqb q3' fun k hk => q4.block k (q3'.lt k hk).2) (by omega)
end Go.Proofs.YtjeadhfponlnnaaGreatDoor

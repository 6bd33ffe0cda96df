/-
  Volumes: the volumes, each with words of its own.
  Conditions: none; lemmas.
-/
import Derived.Test.YtdhichidcomkmaaGreatDoorWriters39
set_option linter.unusedSimpArgs false
set_option linter.unusedVariables false
namespace Go.Proofs.YtdhichidcomkmaaGreatDoor
open Go.RowKit Go.Pur Go.Clerk
open Go.Abs
set_option maxRecDepth 1000000
set_option maxHeartbeats 8000000
def cells1 (x : Vol) (w : Value) : List Value := [sV x.letter, w, nV x.lines, nV x.sent]
def cellsV : List Vol → List Value → List Value
 | x :: xs, w :: ws => cells1 x w ++ cellsV xs ws
 | _, _ => []
theorem cellsV_len : ∀ {xs : List Vol} {ws : List Value}, ws.length = xs.length → (cellsV xs ws).length = xs.length * 4
 | [], [], _ => rfl
 | x :: xs, w :: ws, h => by
  have := cellsV_len (xs := xs) (ws := ws) (by simpa using h)
  simp only [cellsV, cells1, List.cons_append, List.nil_append, List.length_cons, this]
  omega
theorem cellsV_get : ∀ {xs : List Vol} {ws : List Value} {i : Nat} {u : Value}, ws[i]? = some u → i < xs.length → (cellsV xs ws)[i * 4 + 1]? = some u
 | x :: xs, w :: ws, 0, u, h, _ => by simpa [cellsV, cells1] using h
 | x :: xs, w :: ws, i + 1, u, h, hi => by
  have := cellsV_get (xs := xs) (ws := ws) (i := i) (u := u) (by simpa using h) (by simpa using hi)
  rw [show (i + 1) * 4 + 1 = (i * 4 + 1) + 4 by omega]
  simp only [cellsV, cells1, List.cons_append, List.nil_append]
  simpa using this
theorem cellsV_set : ∀ {xs : List Vol} {ws : List Value} {i : Nat} {u : Value}, i < ws.length → i < xs.length → (cellsV xs ws).set (i * 4 + 1) u = cellsV xs (ws.set i u)
 | x :: xs, w :: ws, 0, u, _, _ => by simp [cellsV, cells1]
 | x :: xs, w :: ws, i + 1, u, h, hi => by
  have := cellsV_set (xs := xs) (ws := ws) (i := i) (u := u) (by simpa using h) (by simpa using hi)
  rw [show (i + 1) * 4 + 1 = (i * 4 + 1) + 4 by omega]
  simp only [cellsV, cells1, List.cons_append, List.nil_append, List.set_cons_succ]
  rw [this]
theorem volCells_of : ∀ {W : World} {xs : List Vol} {cs : List Value}, VolCells W xs cs → ∃ ws, ws.length = xs.length ∧ cs = cellsV xs ws ∧ ∀ (j : Nat) u x, ws[j]? = some u → xs[j]? = some x → TextsAt W u x.words := fun {W xs cs} h => by
 induction h with
 | nil => exact ⟨[], rfl, rfl, fun j u x h => by simp at h⟩
 | cons x w xs cs h1 _ ih =>
  obtain ⟨ws, a, rfl, c⟩ := ih
  refine ⟨w :: ws, by simp [a], rfl, fun j u y hj hy => ?_⟩
  cases j with
  | zero =>
   simp only [List.getElem?_cons_zero, Option.some.injEq] at hj hy
   subst hj; subst hy
   exact h1
  | succ j => exact c j u y (by simpa using hj) (by simpa using hy)
theorem row_set {W : World} {B e size n g cap : Nat} {xs : List Value} (h : W.ownsRow B e size (.slice (some ⟨g, 0, none⟩) n cap) n xs) {k : Nat} (hk : k < n * size) (u : Value) : (W.setCell ⟨g, k, none⟩ u).ownsRow B e size (.slice (some ⟨g, 0, none⟩) n cap) n (xs.set k u) := by
 obtain ⟨h1, ⟨h2, _⟩ | ⟨g', cap', cur, e1, h2, h3, h4, h5, h6, h7⟩⟩ := h
 ·cases h2
 ·cases e1
  refine ⟨by rw [List.length_set]; exact h1, .inr ⟨g, cap, cur.setIfInBounds k u, rfl, h2, setCell_block h3, h4, h5, by simpa using h6, ?_⟩⟩
  rw [Array.toList_setIfInBounds, List.take_set, h7]
theorem row_get {W : World} {B e size n g cap : Nat} {xs : List Value} (h : W.ownsRow B e size (.slice (some ⟨g, 0, none⟩) n cap) n xs) {k : Nat} (hk : k < n * size) : W.cell? ⟨g, k, none⟩ = xs[k]? ∧ W.frozen? ⟨g, k, none⟩ = false ∧ g < W.heap.size ∧ B ≤ g ∧ cellTy W g = some e := by
 obtain ⟨h1, ⟨h2, _⟩ | ⟨g', cap', cur, e1, h2, h3, h4, h5, h6, h7⟩⟩ := h
 ·cases h2
 ·cases e1
  refine ⟨?_, by simp [World.frozen?, h3], (Array.getElem?_eq_some_iff.1 h3).1, h2, cellTy_cells h3⟩
  rw [← h7, List.getElem?_take, if_pos hk, Array.getElem?_toList]
  simp [World.cell?, h3]
def VolsP (w : World) (l : List Vol) (e : Ending) (w' : World) : Prop := ∃ v ws, e = .returned v ∧ ws.length = l.length ∧ w'.ownsRow w.heap.size 76 4 v l.length (cellsV l ws) ∧ (∀ (j : Nat) u x, ws[j]? = some u → l[j]? = some x → w'.ownsRow w.heap.size 9 1 u x.words.length (x.words.map sV)) ∧ Below w.heap.size w w'
def V38 (w wb : World) (l : List Vol) (i g cap : Nat) (wx : World) : Prop := ∃ ws, ws.length = l.length ∧ wx.ownsRow w.heap.size 76 4 (.slice (some ⟨g, 0, none⟩) l.length cap) l.length (cellsV l ws) ∧ (∀ (j : Nat) u x, ws[j]? = some u → l[j]? = some x → TextsAt wx u x.words ∧ (j < i → wx.ownsRow w.heap.size 9 1 u x.words.length (x.words.map sV))) ∧ Below w.heap.size w wx
theorem oneCell_vols {W : World} {l : List Vol} {cs : List Value} (h : VolCells W l cs) : ∀ u ∈ cs, u.oneCell' = true := by
 induction h with
 | nil => intro u hu; cases hu
 | cons x w xs cs h1 _ ih =>
  obtain ⟨_, ⟨rfl, _⟩ | ⟨g, cap, cur, rfl, _⟩⟩ := h1
  all_goals
   intro u hu
   simp only [List.mem_cons] at hu
   rcases hu with rfl | rfl | rfl | rfl | hu
   ·rfl
   ·rfl
   ·rfl
   ·rfl
   ·exact ih u hu
theorem volumes_calls (o : Nat) (S : Off) (w : World) (hO : OffAt w o S) (hD : DeskOK S.now) : Calls Tryz.prog 38 #[ptrV o] w fun e w' => VolsP w S.now.vols e w' := by
 have mixed : Tryz.prog.follows .mixedOrders = true := by kernel_rfl
 have hol := hO.lt
 obtain ⟨now, pv, lv, ps, h1, hd, -, -, -, -⟩ := hO
 obtain ⟨me, ma, vv, h2, -, -, -, -, -, -, cs, hcs, hrow⟩ := hd
 obtain ⟨d, hde⟩ : ∃ d, S.now = d := ⟨_, rfl⟩
 rw [hde] at h2 hD hcs hrow ⊢
 clear hde
 have hvl : d.vols.length ≤ 26 := by have := hD.shut; omega
 have c0 := (off_cells h1).1
 obtain ⟨a0, a1, a2, -⟩ := desk_cells h2
 have HI := hidC (invalid_calls o now w c0)
 have HC := hidC (clone84 w 0 vv d.vols.length cs hrow (oneCell_vols hcs) (by omega))
 obtain ⟨ws0, hw0, rfl, hw1⟩ := volCells_of hcs
 have Hw1 := hidC hw1
 have HV := hidC hD.vol
 obtain ⟨l, hl⟩ : ∃ l, d.vols = l := ⟨_, rfl⟩
 rw [hl] at hw0 Hw1 HC HV hvl ⊢
 obtain ⟨N, hN⟩ : ∃ N, l.length = N := ⟨_, rfl⟩
 rw [hN] at HC hvl
 clear hrow hcs h1 h2 hw1 hD
 go_enter Tryz.func38, Tryz.ntmps38
 go_wp2_with (first | (go_at_call 49; refine HI.out.mono ?_; rintro e wa ⟨rfl, hwa⟩; subst wa) | (go_at_call 84; refine HC.out.mono ?_; rintro e wb ⟨v, rfl, hv, hbb⟩; obtain ⟨ga, gc, rfl⟩ := row_slice hv; have Hv := hidC hv; have Hbb := hidC hbb; clear hv hbb))
 go_loopg [4, 17] (N + 1) (fun gk s4 s17 wx => ∃ i : Nat, s17 = .int .i64 (i : Int) ∧ i ≤ N ∧ N < i + gk ∧ (N = 0 ∧ wx = wb ∨ ∃ g cap, ga = some ⟨g, 0, none⟩ ∧ gc = cap ∧ V38 w wb l i g cap wx))
 case atStart =>
  refine ⟨0, rfl, Nat.zero_le _, by omega, ?_⟩
  rcases Hv.out.2 with ⟨_, h0⟩ | ⟨g, cap, cur, e1, h2, h3⟩
  ·exact .inl ⟨h0, rfl⟩
  ·cases e1
   refine .inr ⟨g, gc, rfl, rfl, ws0, hw0, by rw [hN]; exact Hv.out, fun j u x hj hx => ⟨?_, fun h => absurd h (Nat.not_lt_zero _)⟩, Hbb.out⟩
   exact row_below (Hw1.out j u x hj hx) Hbb.out
 case round =>
  obtain ⟨i, rfl, hi, hg, hrel⟩ := hrel
  by_cases hlt : i < N
  ·obtain ⟨g', rfl⟩ : ∃ g', gk = g' + 1 := ⟨gk - 1, by omega⟩
   rcases hrel with ⟨h0, _⟩ | ⟨g, cap, rfl, rfl, ws, hwl, hrow, hws, hb⟩
   ·omega
   obtain ⟨u, hu⟩ : ∃ u, ws[i]? = some u := ⟨_, List.getElem?_eq_getElem (by omega)⟩
   obtain ⟨x, hx⟩ : ∃ x, l[i]? = some x := ⟨_, List.getElem?_eq_getElem (by omega)⟩
   have hi1 : (0 : Int) ≤ (i : Int) := by omega
   have hi2 : (i : Int) < (N : Int) := by omega
   obtain ⟨k1, k2, k3, k4, k5⟩ := row_get hrow (k := i * 4 + 1) (by omega)
   rw [cellsV_get hu (by omega)] at k1
   obtain ⟨tu, -⟩ := hws i u x hu hx
   have hxl := (HV.out x (List.mem_of_getElem? hx)).words
   have HCl := hidC (clone72 wr u x.words tu (by omega))
   have Hrow := hidC hrow
   have Hws := hidC hws
   have Hb := hidC hb
   have Hu := hidC hu
   have Hx := hidC hx
   have HK := hidC (And.intro k4 k5)
   clear hrow hws hb hu hx tu k4 k5
   go_wp2_with (go_at_call 72; refine HCl.out.mono ?_; rintro e wz ⟨v, rfl, hv, hbz⟩; obtain ⟨va, vc, rfl⟩ := row_slice hv; have Hv2 := hidC hv; have Hbz := hidC hbz; have z1 := (hbz.frozen (p := ⟨g, i * 4 + 1, none⟩) k3).trans k2; have z2 := Nat.lt_of_lt_of_le k3 hbz.size; have z3 := (hbz.cell (p := ⟨g, i * 4 + 1, none⟩) k3).trans k1; clear hv hbz)
   go_roundg g'
   case measure => omega
   case rel =>
    have tyg : cellTy wz g = some 76 := (cellTy_of (Hbz.out.block g k3)).trans HK.out.2
    refine ⟨i + 1, by simp, by omega, by omega, .inr ⟨g, gc, rfl, rfl, ws.set i (.slice va x.words.length vc), by rw [List.length_set]; exact hwl, ?_, fun j u' x' hj hx' => ?_, ?_⟩⟩
    ·rw [← cellsV_set (by omega) (by omega)]
     exact row_set (row_below Hrow.out Hbz.out) (by omega) _
    ·by_cases hij : i = j
     ·subst hij
      rw [List.getElem?_set_self (by omega)] at hj
      cases hj
      have : x' = x := by rw [Hx.out] at hx'; exact (Option.some.inj hx').symm
      subst this
      have hr := row_mono (row_cell (a := ⟨g, i * 4 + 1, none⟩) (x := .slice va x'.words.length vc) Hv2.out tyg (by decide)) Hb.out.size
      exact ⟨row_mono hr (Nat.zero_le _), fun _ => hr⟩
     ·rw [List.getElem?_set_ne hij] at hj
      obtain ⟨t1, t2⟩ := Hws.out j u' x' hj hx'
      refine ⟨row_cell (row_below t1 Hbz.out) tyg (by decide), fun hj2 => row_cell (row_below (t2 (by omega)) Hbz.out) tyg (by decide)⟩
    ·exact (Hb.out.trans (Hbz.out.mono Hb.out.size)).setCell (by show w.heap.size ≤ g; exact HK.out.1) _
  ·obtain rfl : i = N := by omega
   have Hrel := hidC hrel
   clear hrel
   go_wp2_with fail
   go_ret
   rcases Hrel.out with ⟨h0, rfl⟩ | ⟨g, cap, rfl, rfl, ws, hwl, hrow, hws, hb⟩
   ·have hl0 : l = [] := List.eq_nil_of_length_eq_zero (by omega)
    have hw0' : ws0 = [] := List.eq_nil_of_length_eq_zero (by omega)
    subst hl0; subst hw0'
    exact ⟨_, [], rfl, rfl, by simpa [h0] using Hv.out, fun j u x h => by simp at h, Hbb.out⟩
   ·refine ⟨_, ws, rfl, hwl, by rw [hN] at hrow ⊢; exact hrow, fun j u x hj hx => ?_, hb⟩
    have : j < l.length := (List.getElem?_eq_some_iff.1 hx).1
    exact (hws j u x hj hx).2 (by omega)
end Go.Proofs.YtdhichidcomkmaaGreatDoor

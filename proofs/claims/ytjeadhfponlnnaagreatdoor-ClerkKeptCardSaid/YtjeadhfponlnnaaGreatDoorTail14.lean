/-
  An office where a row of texts that is none of its own has grown in place.
  append of one text to a row of texts: either the row comes to lie anew, or one cell behind its end has turned.
  Conditions: none; definitions and lemmas.
-/
import Derived.Test.YtjeadhfponlnnaaGreatDoorToldLaw
import Derived.Test.YtjeadhfponlnnaaGreatDoorDesk14
import Derived.OwnWalk
import Derived.ArgAppend
set_option linter.unusedSimpArgs false
set_option linter.unusedVariables false
namespace Go.Clerk
open Go.RowKit Go.Pur Go.Abs
structure TailOf (g n : Nat) (y : Value) (W W' : World) : Prop where
 size : W.heap.size ≤ W'.heap.size
 block : ∀ k, k < W.heap.size → k ≠ g → W'.heap[k]? = W.heap[k]?
 here : ∃ (cs ds : Array Value) (fr : Nat × Nat), W.heap[g]? = some (.cells cs 9 fr) ∧ W'.heap[g]? = some (.cells ds 9 fr) ∧ ds.size = cs.size ∧ ds.toList.take n = cs.toList.take n ∧ ds.toList[n]? = some y
theorem TailOf.ty {g n : Nat} {y : Value} {W W' : World} (h : TailOf g n y W W') : cellTy W g = some 9 := by
 obtain ⟨cs, ds, fr, h1, _⟩ := h.here
 unfold cellTy
 simp only [h1]
theorem TextsAt.tail {g n : Nat} {y : Value} {W W' : World} {v : Value} {l : List Tx} (h : TextsAt W v l) (ht : TailOf g n y W W') (hl : l.length ≤ n) : TextsAt W' v l := by
 refine ⟨h.1, h.2.imp (fun h => h) ?_⟩
 rintro ⟨b, cap, cur, e1, e2, e3, e4, e5, e6, e7⟩
 by_cases hg : b = g
 ·subst hg
  obtain ⟨cs, ds, fr, k1, k2, k3, k4, -⟩ := ht.here
  rw [e3] at k1
  cases k1
  refine ⟨b, cap, ds, e1, e2, k2, e4, e5, k3.trans e6, ?_⟩
  rw [Nat.mul_one] at e7 ⊢
  have := congrArg (List.take l.length) k4
  rw [List.take_take, List.take_take, Nat.min_eq_left hl] at this
  rw [this]
  exact e7
 ·exact ⟨b, cap, cur, e1, e2, (ht.block b (Array.getElem?_eq_some_iff.1 e3).1 hg).trans e3, e4, e5, e6, e7⟩
theorem TextsAt.tail_last {g n : Nat} {t : Tx} {W W' : World} {v : Value} {l : List Tx} (h : TextsAt W v (l ++ [t])) (ht : TailOf g n (sV t) W W') (hl : l.length = n) : TextsAt W' v (l ++ [t]) := by
 refine ⟨h.1, h.2.imp (fun h => h) ?_⟩
 rintro ⟨b, cap, cur, e1, e2, e3, e4, e5, e6, e7⟩
 by_cases hg : b = g
 ·subst hg
  obtain ⟨cs, ds, fr, k1, k2, k3, k4, k5⟩ := ht.here
  rw [e3] at k1
  cases k1
  refine ⟨b, cap, ds, e1, e2, k2, e4, e5, k3.trans e6, ?_⟩
  have hn : (l ++ [t]).length = n + 1 := by rw [List.length_append, hl]; rfl
  rw [Nat.mul_one, hn, List.map_append] at e7 ⊢
  rw [List.take_add_one, k5, k4]
  have e8 := congrArg (List.take n) e7
  rw [List.take_take, Nat.min_eq_left (Nat.le_succ n), List.take_append_of_le_length (by rw [List.length_map]; omega)] at e8
  have e9 : List.take n (l.map sV) = l.map sV := List.take_of_length_le (by rw [List.length_map]; omega)
  rw [e8, e9]
  rfl
 ·exact ⟨b, cap, cur, e1, e2, (ht.block b (Array.getElem?_eq_some_iff.1 e3).1 hg).trans e3, e4, e5, e6, e7⟩
theorem row_tail {g n : Nat} {y : Value} {W W' : World} {B e size m : Nat} {v : Value} {xs : List Value} (h : W.ownsRow B e size v m xs) (ht : TailOf g n y W W') (he : e ≠ 9) : W'.ownsRow B e size v m xs :=
 row_eqb h fun k hk => by
  obtain ⟨h1, h2⟩ := row_ty h hk
  refine ht.block k h2 fun hg => he ?_
  subst hg
  rw [ht.ty] at h1
  exact (Option.some.inj h1).symm
theorem VolCells.tail {g n : Nat} {y : Value} {W W' : World} {xs : List Vol} {cs : List Value} (h : VolCells W xs cs) (ht : TailOf g n y W W') (hl : ∀ v ∈ xs, v.words.length ≤ n) : VolCells W' xs cs := by
 induction h with
 | nil => exact .nil
 | cons x w xs cs h1 _ ih => exact .cons x w xs cs (h1.tail ht (hl x (List.mem_cons_self ..))) (ih fun v hv => hl v (List.mem_cons_of_mem _ hv))
theorem MapAt.tail {V : Type} {g n : Nat} {y : Value} {W W' : World} {b : Nat} {vf : V → Value} {l : List (Tx × V)} (h : MapAt W b vf l) (ht : TailOf g n y W W') : MapAt W' b vf l := by
 have hlt := h.lt
 refine h.eqb (ht.block b hlt fun hg => ?_)
 subst hg
 obtain ⟨m, c, h1, h2⟩ := h
 have := ht.ty
 unfold cellTy at this
 rw [h1] at this
 cases this
theorem DeskAt.tail {g n : Nat} {y : Value} {W W' : World} {k p : Nat} {d : Desk} (h : DeskAt W k p d) (ht : TailOf g n y W W') (hl : ∀ v ∈ d.vols, v.words.length ≤ n) : DeskAt W' k p d := by
 have hlt := h.lt
 obtain ⟨me, ma, vv, h1, h2, h3, h4, h5, h6, h7, cs, h8, h9⟩ := h
 refine ⟨me, ma, vv, (ht.block p hlt fun hg => ?_).trans h1, h2, h3, h4, h5, h6.tail ht, h7.tail ht, cs, h8.tail ht hl, row_tail h9 ht (by decide)⟩
 subst hg
 have := ht.ty
 unfold cellTy at this
 rw [h1] at this
 cases this
theorem Desks.tail {g n : Nat} {y : Value} {W W' : World} {xs : List Desk} {cs : List Value} (h : Desks W xs cs) (ht : TailOf g n y W W') (hl : ∀ d ∈ xs, ∀ v ∈ d.vols, v.words.length ≤ n) : Desks W' xs cs := by
 induction h with
 | nil => exact .nil
 | cons x w xs cs h1 _ ih => exact .cons x w xs cs (h1.tail ht (hl w (List.mem_cons_self ..))) (ih fun v hv => hl v (List.mem_cons_of_mem _ hv))
theorem OffAt.tail {g n : Nat} {t : Tx} {L : List Tx} {W W' : World} {o : Nat} {S : Off} (h : OffAt W o S) (ht : TailOf g n (sV t) W W') (hs : LenOK S) (hl : S.lines = L ++ [t]) (hn : L.length = n) : OffAt W' o S := by
 have hlt := h.lt
 have hty := h.ty
 have hlen : S.lines.length = n + 1 := by rw [hl, List.length_append, hn]; rfl
 obtain ⟨now, pv, lv, ps, h1, h2, h3, h4, h5, h6⟩ := h
 refine ⟨now, pv, lv, ps, (ht.block o hlt fun hg => ?_).trans h1, h2.tail ht fun v hv => by have := (hs _ (.inl rfl)).2 v hv; omega, row_tail h3 ht (by decide), h4.tail ht fun d hd v hv => by have := (hs d (.inr hd)).2 v hv; omega, by rw [hl] at h5 ⊢; exact h5.tail_last ht hn, h6⟩
 subst hg
 rw [ht.ty] at hty
 cases hty
end Go.Clerk
set_option linter.unusedSimpArgs false
set_option linter.unusedVariables false
namespace Go.Clerk
open Go.RowKit Go.Pur Go.Abs
theorem tail_of {W W' : World} {B e n m cap g : Nat} {xs : List Value} {y : Value} (h : W.ownsRow B 9 1 (.slice (some ⟨g, 0, none⟩) n cap) n xs) (h' : W'.ownsRow B 9 1 (.slice (some ⟨g, 0, none⟩) m cap) m (xs ++ [y])) (hg : W.grownBy W' (some g)) : TailOf g n y W W' := by
 obtain ⟨a1, ⟨a2, -⟩ | ⟨b, c, cur, e1, e2, e3, e4, e5, e6, e7⟩⟩ := h
 ·cases a2
 obtain ⟨a1', ⟨a2', -⟩ | ⟨b', c', cur', e1', e2', e3', e4', e5', e6', e7'⟩⟩ := h'
 ·cases a2'
 cases e1
 cases e1'
 refine ⟨hg.size, fun k hk hne => hg.block k hk (fun e => hne (Option.some.inj e)), cur, cur', (0, 0), e3, e3', by rw [e6, e6'], ?_, ?_⟩
 rotate_left
 ·have hl : xs.length = n := by rw [a1, Nat.mul_one]
  have hm : m = n + 1 := by rw [List.length_append, Nat.mul_one, hl] at a1'; exact a1'.symm
  have h0 : (List.take (m * 1) cur'.toList)[n]? = some y := by rw [e7']; simp [hl]
  rw [List.getElem?_take, if_pos (by omega)] at h0
  exact h0
 rw [Nat.mul_one] at e7 e7'
 have hl : xs.length = n := by rw [a1, Nat.mul_one]
 have hm : n ≤ m := by
  have := a1'
  rw [List.length_append, Nat.mul_one] at this
  omega
 have := congrArg (List.take n) e7'
 rw [List.take_take, Nat.min_eq_left hm, List.take_append_of_le_length (by omega)] at this
 have e : List.take n xs = xs := List.take_of_length_le (by omega)
 rw [e] at this
 rw [this, e7]
theorem wpList_snoc {P : Program} (w : World) {ops : Array Oper} {rest : List Oper} {o : Oper} {a : Act} {Q : Exit → Act → World → Prop}
  (hg : o.guard = none) (s x : Operand) (t : TypeId) (hop : o.op = Op.call { callee := Callee.builtin Builtin.append, args := #[s, x], argTypes := #[t, t] })
  (i : TypeInfo) (z : Value) (h1 : P.underlying t = some (.slice 9)) (h2 : P.info? 9 = some i) (h3 : i.zero = some z) (h4 : i.size = 1) (h5 : i.bytes = 16) (h6 : z.cells.size = 1)
  (base : Nat) (v : Value) (n : Nat) (xs : List Value) (hs : a.eval s = v) (hown : w.ownsRow base 9 1 v n xs) (hbase : base ≤ w.heap.size)
  (ad : Addr) (c : Nat) (y : Value) (hx : a.eval x = .slice (some ad) 1 c) (hc : w.cell? ad = some y) (h1c : y.oneCell' = true) (hn : n ≤ 1000000)
  (hK : ∀ v' w', w'.ownsRow base 9 1 v' (n + 1) (xs ++ [y]) → (w.grownBy w' none ∨ ∃ g, TailOf g n y w w' ∧ w.grownBy w' (some g) ∧ v.ownBlock = some g) → wpList P ops Q rest (a.put o.dst v') w') :
  wpList P ops Q (o :: rest) a w := by
 have hnews : ∀ (j : Nat) u, [y][j]? = some u → w.cell? (ad.add j) = some u := fun j u hj => by
  match j, hj with
  | 0, hj => cases hj; simpa [Addr.add] using hc
  | j + 1, hj => simp at hj
 have h1u : ∀ u ∈ [y], u.oneCell' = true := fun u hu => by rw [List.mem_singleton.1 hu]; exact h1c
 have hw := hown
 obtain ⟨a1, ⟨rfl, rfl⟩ | ⟨g, cap, cur, rfl, e2, e3, e4, e5, e6, e7⟩⟩ := hw
 ·obtain rfl : xs = [] := List.eq_nil_of_length_eq_zero (by simpa using a1)
  refine wpList_append_grows w hg s x t hop 9 i z 1 16 h1 h2 h3 h4 h5 h6 (by decide) none 0 0 [] hs (fun _ => ⟨rfl, rfl⟩) rfl (fun b hb => by cases hb) ad 1 c [y] hx rfl hnews h1u (by decide) (by unfold maxLen; omega) (by omega) ?_
  exact fun v' w' r1 r2 => hK v' w' (row_mono r1 hbase) (.inl r2)
 ·by_cases hf : n + 1 ≤ cap
  ·refine wpList_append_fits w hg s x t hop base 9 i 1 h1 h2 h4 g n cap xs hs hown ad 1 c [y] hx rfl hnews h1u hf ?_
   exact fun w' r1 r2 => hK _ w' r1 (.inr ⟨g, tail_of (e := 0) hown r1 r2, r2, rfl⟩)
  ·refine wpList_append_grows w hg s x t hop 9 i z 1 16 h1 h2 h3 h4 h5 h6 (by decide) (some ⟨g, 0, none⟩) n cap xs hs (fun h => by cases h) (by rw [a1]) (fun b hb j u hu => ?_) ad 1 c [y] hx rfl hnews h1u (by omega) (by unfold maxLen; omega) (by omega) ?_
   ·cases hb
    have hj : j < xs.length := (List.getElem?_eq_some_iff.1 hu).1
    have := e7
    rw [← this, List.getElem?_take, if_pos (by rw [a1] at hj; exact hj)] at hu
    have e : (⟨g, 0, none⟩ : Addr).add j = ⟨g, j, none⟩ := by simp [Addr.add]; exact fun h => h.symm
    rw [e]
    unfold World.cell?
    simp only [e3]
    rw [Array.getElem?_toList] at hu
    exact hu
   ·exact fun v' w' r1 r2 => hK v' w' (row_mono r1 hbase) (.inl r2)
end Go.Clerk

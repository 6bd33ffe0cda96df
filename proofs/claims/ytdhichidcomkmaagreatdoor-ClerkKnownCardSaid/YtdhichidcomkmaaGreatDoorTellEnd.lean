/-
  The office behind a line that was taken.
  Conditions: none; lemmas.
-/
import Derived.Test.YtdhichidcomkmaaGreatDoorTell4
set_option linter.unusedSimpArgs false
set_option linter.unusedVariables false
namespace Go.Proofs.YtdhichidcomkmaaGreatDoor
open Go.RowKit Go.Pur Go.Clerk
open Go.Abs
set_option maxRecDepth 100000
theorem cellTy_of {W W' : World} {k : Nat} (h : W'.heap[k]? = W.heap[k]?) : cellTy W' k = cellTy W k := by unfold cellTy; rw [h]
theorem cellTy_cells {W : World} {k : Nat} {cs : Array Value} {t : TypeId} {f : Nat × Nat} (h : W.heap[k]? = some (.cells cs t f)) : cellTy W k = some t := by unfold cellTy; simp only [h]
theorem but_cell {X : Nat → Prop} {n : Nat} {W : World} {a : Addr} {x : Value} (h : X a.block ∨ n ≤ a.block) : But X n W (W.setCell a x) :=
 ⟨rfl, rfl, rfl, by simp, fun k hk hX => Below.heap_setCell _ _ _ _ (by
  rintro rfl
  rcases h with h | h
  ·exact hX h
  ·omega)⟩
theorem not_map2 {W : World} {t : TypeId} {X : Nat → Prop} (hX : Ofs W t X) {b : Nat} {es : Array MapEntry} {c : Nat} (h : W.heap[b]? = some (.map es c)) : ¬ X b := fun hx => by
 have := hX b hx
 unfold cellTy at this
 rw [h] at this
 cases this
theorem desk_ofs {t : TypeId} (ht : t ≠ 98 ∧ t ≠ 9 ∧ t ≠ 76 ∧ t ≠ 56) {W W' : World} {n p : Nat} {d : Desk} {X : Nat → Prop} {k : Nat} (h : DeskAt W n p d) (hb : But X k W W') (hn : W.heap.size ≤ k) (hX : Ofs W t X) : DeskAt W' n p d := by
 have hl := h.lt
 obtain ⟨me, ma, vv, h1, h2, h3, h4, h5, h6, h7, h8⟩ := h
 have l6 := h6.lt
 have l7 := h7.lt
 have hF : Far W X := fun k hx u hu => by
  have := hX k hx
  rw [hu] at this
  cases this
  exact ⟨ht.2.1, ht.2.2.1, ht.2.2.2⟩
 refine ⟨me, ma, vv, (hb.block p (by omega) (ofs_ne hX (u := 98) (by unfold cellTy; simp only [h1]) ht.1)).trans h1, h2, h3, h4, h5, ?_, ?_, h8.but hb hn hF⟩
 ·obtain ⟨m, c, e, h⟩ := h6
  exact ⟨m, c, (hb.block me (by omega) (not_map2 hX e)).trans e, h⟩
 ·obtain ⟨m, c, e, h⟩ := h7
  exact ⟨m, c, (hb.block ma (by omega) (not_map2 hX e)).trans e, h⟩
theorem row_cell {W : World} {B e size n : Nat} {v : Value} {xs : List Value} (h : W.ownsRow B e size v n xs) {a : Addr} {x : Value} {t : TypeId} (ht : cellTy W a.block = some t) (hne : t ≠ e) : (W.setCell a x).ownsRow B e size v n xs :=
 row_eqb h fun k hk => Below.heap_setCell _ _ _ _ (by
  rintro rfl
  have := (row_ty h hk).1
  rw [ht] at this
  exact hne (Option.some.inj this))
theorem row_below {W W' : World} {B e size n : Nat} {v : Value} {xs : List Value} (h : W.ownsRow B e size v n xs) (hb : Below W.heap.size W W') : W'.ownsRow B e size v n xs :=
 row_eqb h fun k hk => hb.block k (row_ty h hk).2
theorem taken_end (o n now q N m B7 B9 : Nat) (S : Off) (line : Tx) (d' : Desk) (w w4 w5 w6 w7 w8 w9 wA wB : World) (pv lv va vb : Value) (pa la a7 a9 : Option Addr) (pc lc c7 c9 : Nat) (ps : List Value)
  (hN : w.heap.size = N) (hoN : o < N) (h1 : w.heap[o]? = some (.cells #[ptrV now, pv, lv] 59 (0, 0)))
  (h2 : DeskAt w 0 now S.now) (h4 : Desks w S.past ps) (hlen : S.past.length = n) (hlen2 : S.lines.length = n)
  (b4 : But (· = o) N w w4) (b5 : Below m w4 w5) (hm : N ≤ m) (e6 : w5.setCell ⟨N + 1, 0, none⟩ va = w6) (g4 : cellTy w5 (N + 1) = some 29) (gO : cellTy w5 o = some 59)
  (b7 : Below w6.heap.size w6 w7) (r7 : w7.ownsRow B7 56 1 (.slice a7 (n + 1) c7) (n + 1) (ps ++ [ptrV now]))
  (e8 : w7.setCell ⟨o, 1, none⟩ (.slice a7 (n + 1) c7) = w8)
  (b9 : Below w8.heap.size w8 w9) (r9 : w9.ownsRow B9 9 1 (.slice a9 (n + 1) c9) (n + 1) (S.lines.map sV ++ [sV line]))
  (eA : w9.setCell ⟨o, 2, none⟩ (.slice a9 (n + 1) c9) = wA) (eB : wA.setCell ⟨N + 1, 0, none⟩ vb = wB)
  (hd5 : DeskAt w5 m q d') (uA : cellTy w9 (N + 1) = some 29) (u9 : cellTy w9 o = some 59) (u7 : cellTy w7 o = some 59) (uB : cellTy wA (N + 1) = some 29)
  (vO : wB.heap[o]? = some (.cells #[ptrV q, .slice a7 (n + 1) c7, .slice a9 (n + 1) c9] 59 (0, 0))) :
  OffAt wB o ⟨d', S.past ++ [S.now], S.lines ++ [line]⟩ ∧ But (· = o) N w wB := by
 have k5 : But (· = o) N w w5 := b4.trans (But.of (b5.mono (by omega)))
 have k6 : But (· = o) N w w6 := by rw [← e6]; exact k5.trans (but_cell (.inr (by show N ≤ N + 1; omega)))
 have k7 : But (· = o) N w w7 := k6.trans (But.of (b7.mono (by have := k6.size; omega)))
 have k8 : But (· = o) N w w8 := by rw [← e8]; exact k7.trans (but_cell (.inl rfl))
 have k9 : But (· = o) N w w9 := k8.trans (But.of (b9.mono (by have := k8.size; omega)))
 have kA : But (· = o) N w wA := by rw [← eA]; exact k9.trans (but_cell (.inl rfl))
 have kB : But (· = o) N w wB := by rw [← eB]; exact kA.trans (but_cell (.inr (by show N ≤ N + 1; omega)))
 have hX : Ofs w 59 (· = o) := fun k hk => by subst hk; exact cellTy_cells h1
 have d6 : DeskAt w6 m q d' := by
  rw [← e6]
  exact desk_ofs (t := 29) (by decide) (X := (· = N + 1)) (k := w5.heap.size) hd5 (but_cell (.inl rfl)) (Nat.le_refl _) (fun k hk => by subst hk; exact g4)
 have d7 : DeskAt w7 m q d' := d6.below b7
 have d8 : DeskAt w8 m q d' := by
  rw [← e8]
  exact d7.but (X := (· = o)) (k := w7.heap.size) (but_cell (.inl rfl)) (Nat.le_refl _) (fun k hk => by subst hk; exact u7)
 have d9 : DeskAt w9 m q d' := d8.below b9
 have dA : DeskAt wA m q d' := by
  rw [← eA]
  exact d9.but (X := (· = o)) (k := w9.heap.size) (but_cell (.inl rfl)) (Nat.le_refl _) (fun k hk => by subst hk; exact u9)
 have dB : DeskAt wB m q d' := by
  rw [← eB]
  exact desk_ofs (t := 29) (by decide) (X := (· = N + 1)) (k := wA.heap.size) dA (but_cell (.inl rfl)) (Nat.le_refl _) (fun k hk => by subst hk; exact uB)
 have p8 : w8.ownsRow B7 56 1 (.slice a7 (n + 1) c7) (n + 1) (ps ++ [ptrV now]) := by rw [← e8]; exact row_cell r7 u7 (by decide)
 have p9 := row_below p8 b9
 have pA : wA.ownsRow B7 56 1 (.slice a7 (n + 1) c7) (n + 1) (ps ++ [ptrV now]) := by rw [← eA]; exact row_cell p9 u9 (by decide)
 have pB : wB.ownsRow B7 56 1 (.slice a7 (n + 1) c7) (n + 1) (ps ++ [ptrV now]) := by rw [← eB]; exact row_cell pA uB (by decide)
 have lA : wA.ownsRow B9 9 1 (.slice a9 (n + 1) c9) (n + 1) (S.lines.map sV ++ [sV line]) := by rw [← eA]; exact row_cell r9 u9 (by decide)
 have lB : wB.ownsRow B9 9 1 (.slice a9 (n + 1) c9) (n + 1) (S.lines.map sV ++ [sV line]) := by rw [← eB]; exact row_cell lA uB (by decide)
 refine ⟨⟨q, _, _, ps ++ [ptrV now], vO, dB.mono (Nat.zero_le _), ?_, ?_, ?_, by simp [hlen, hlen2]⟩, kB⟩
 ·have : (S.past ++ [S.now]).length = n + 1 := by simp [hlen]
  rw [this]
  exact row_mono pB (Nat.zero_le _)
 ·exact (h4.but kB (by omega) hX).snoc (h2.but kB (by omega) hX)
 ·have : (S.lines ++ [line]).length = n + 1 := by simp [hlen2]
  unfold TextsAt
  rw [this, List.map_append]
  exact row_mono lB (Nat.zero_le _)
end Go.Proofs.YtdhichidcomkmaaGreatDoor

/-
  A region that draws, with what is known of the world told by the operations that have come up: a cell's fact is asked only as long as its load is still to come.
  Tell, where a line takes back.
  Conditions: none; definitions and lemmas.
-/
import Derived.Test.YtjeadhfponlnnaaGreatDoorTell1
import Derived.OrdersHeld
import Derived.BigRegion
set_option linter.unusedSimpArgs false
set_option linter.unusedVariables false
namespace Go.Proofs.YtjeadhfponlnnaaGreatDoor
section
variable {P : Program} {ops : Array Oper} {Q : Exit → Act → World → Prop} {md : Region.Mode} {T : Array Bool → World → Prop} {S : World → Prop}
def wpAnyL (P : Program) (md : Region.Mode) (ops : Array Oper) (Q : Exit → Act → World → Prop) (T : Array Bool → World → Prop) : Nat → Array Bool → Act → World → Prop
 | 0, l, a, w => Region.ready md ops l = [] ∧ Q .normal a w
 | n + 1, l, a, w => (Region.ready md ops l = [] → Q .normal a w) ∧
  ∀ i ∈ Region.ready md ops l, wpOp P ops Q i (fun a' w' => T (l.setIfInBounds i true) w' ∧ wpAnyL P md ops Q T n (l.setIfInBounds i true) a' w') a w
theorem wpAny_of_L : ∀ (n : Nat) (l : Array Bool) (a : Act) (w : World), wpAnyL P md ops Q T n l a w → wpAny P md ops Q n l a w
 | 0, _, _, _, h => h
 | n + 1, _, _, _, h => ⟨h.1, fun i hi => wpOp_mono (fun a' w' h' => wpAny_of_L n _ a' w' h'.2) (h.2 i hi)⟩
def Closed (md : Region.Mode) (ops : Array Oper) (l : Array Bool) : Prop := ∀ (j : Nat) (o : Oper), ops[j]? = some o → l.getD j false = true → ∀ e ∈ o.after, Region.binds md e = true → l.getD e.on false = true
theorem listed_of {l : Array Bool} {j : Nat} (h : l.getD j true = true) (hj : j < l.size) : l.getD j false = true := by
 simp [hj] at h ⊢
 exact h
theorem Closed.set {l : Array Bool} {j : Nat} (h : Closed md ops l) (hj : j ∈ Region.ready md ops l) : Closed md ops (l.setIfInBounds j true) := fun k o ho hk e he hb => by
 obtain ⟨_, oj, hoj, hall⟩ := mem_ready.1 hj
 by_cases hkj : j = k
 ·subst hkj
  rw [hoj] at ho
  cases ho
  exact getD_set_true (hall e he hb)
 ·rw [getD_set_ne false hkj] at hk
  exact getD_set_true (h k o ho hk e he hb)
def waits (md : Region.Mode) (ops : Array Oper) (j i : Nat) : Bool := match ops[j]? with
 | some o => o.after.any fun e => Region.binds md e && e.on == i
 | none => false
theorem Closed.unlisted {l : Array Bool} {i j : Nat} (h : Closed md ops l) (hw : waits md ops j i = true) (hi : l.getD i true = false) : l.getD j false = false := by
 unfold waits at hw
 cases ho : ops[j]? with
 | none => simp [ho] at hw
 | some o =>
  simp only [ho, Array.any_eq_true'] at hw
  obtain ⟨e, he, hb⟩ := hw
  simp only [Bool.and_eq_true, beq_iff_eq] at hb
  cases hl : l.getD j false with
  | false => rfl
  | true =>
   have h1 := h j o ho hl e he hb.1
   rw [hb.2] at h1
   rcases Nat.lt_or_ge i l.size with h' | h'
   ·simp [h'] at h1 hi
    rw [hi] at h1
    cases h1
   ·simp [Array.getElem?_eq_none h'] at h1
theorem wpAnyL_first {i : Nat} {oi : Oper} {v : Value} (hi : ops[i]? = some oi) (hsel : ∀ (j : Nat) (o : Oper) cs b, ops[j]? = some o → o.op ≠ .select cs b)
  (hQ : ∀ c a w, Q (.panic c) (a.put oi.dst v) w → Q (.panic c) a w) (hT : ∀ l w, Closed md ops l → l.getD i true = false → T l w → S w) (hTi : ∀ l w, T (l.setIfInBounds i true) w ↔ T l w) :
  ∀ (n : Nat) (l : Array Bool) (a : Act) (w : World),
   (∀ j oj, ops[j]? = some oj → j ≠ i → l.getD j true = false → (∀ e ∈ oj.after, Region.binds md e = true → e.on ≠ i) → oi.apart ops oj = true) →
   i ∈ Region.ready md ops l → YieldsIf P ops S oi v a → T l w → Closed md ops l →
   wpAnyL P md ops Q T n (l.setIfInBounds i true) (a.put oi.dst v) w → wpAnyL P md ops Q T (n + 1) l a w := by
 intro n
 induction n with
 | zero =>
  intro l a w _ hr hy hTl hcl H
  refine ⟨fun h => (by rw [h] at hr; cases hr), fun j hj => ?_⟩
  by_cases hji : j = i
  ·subst hji
   exact hy.wpOp hi (hT l w hcl (mem_ready.1 hr).1 hTl) ⟨(hTi l w).2 hTl, H⟩
  ·have h1 := ready_mono hj hji
   rw [H.1] at h1
   cases h1
 | succ n ih =>
  intro l a w hf hr hy hTl hcl H
  refine ⟨fun h => (by rw [h] at hr; cases hr), fun j hj => ?_⟩
  by_cases hji : j = i
  ·subst hji
   exact hy.wpOp hi (hT l w hcl (mem_ready.1 hr).1 hTl) ⟨(hTi l w).2 hTl, H⟩
  ·have hij : i ≠ j := fun h => hji h.symm
   have hready : i ∈ Region.ready md ops (l.setIfInBounds j true) := ready_mono hr hij
   have hun : (l.setIfInBounds j true).getD i true = false := (mem_ready.1 hready).1
   obtain ⟨hju, oj, hoj, hall⟩ := mem_ready.1 hj
   have hnot : ∀ e ∈ oj.after, Region.binds md e = true → e.on ≠ i := fun e he hb heq => by
    have h1 := hall e he hb
    have h0 := (mem_ready.1 hr).1
    rw [heq] at h1
    rcases Nat.lt_or_ge i l.size with h' | h'
    ·simp [h'] at h0 h1
     rw [h0] at h1
     cases h1
    ·simp [Array.getElem?_eq_none h'] at h1
   have h2 := wpOp_putIf hoj (hf j oj hoj hji hju hnot) (fun cs b => hsel i oi cs b hi) (fun cs b => hsel j oj cs b hoj) hQ hy (H.2 j (ready_mono hj hji))
   refine wpOp_mono (fun a' w' h3 => ?_) h2
   obtain ⟨g1, g2, g3⟩ := h3
   have hcc : (l.setIfInBounds i true).setIfInBounds j true = (l.setIfInBounds j true).setIfInBounds i true := Array.setIfInBounds_comm _ _ hij
   rw [hcc] at g2 g3
   have g4 := (hTi _ _).1 g2
   refine ⟨g4, ih (l.setIfInBounds j true) a' w' ?_ hready g1 g4 (hcl.set hj) g3⟩
   intro k ok hk hki hku hno
   refine hf k ok hk hki ?_ hno
   by_cases hjk : j = k
   ·subst hjk
    exact hju
   ·rw [getD_set_ne true hjk] at hku
    exact hku
theorem wpAnyL_take {i : Nat} {oi : Oper} {v : Value} {n : Nat} {l : Array Bool} {a : Act} {w : World} (hi : ops[i]? = some oi)
  (hs : Region.noSelect ops = true) (hf : Region.free md ops l i = true) (hr : (Region.ready md ops l).contains i = true)
  (hQ : ∀ c a w, Q (.panic c) (a.put oi.dst v) w → Q (.panic c) a w)
  (hT : ∀ l w, Closed md ops l → l.getD i true = false → T l w → S w) (hTi : ∀ l w, T (l.setIfInBounds i true) w ↔ T l w)
  (hy : YieldsIf P ops S oi v a) (hTl : T l w) (hcl : Closed md ops l)
  (h : T (l.setIfInBounds i true) w → Closed md ops (l.setIfInBounds i true) → wpAnyL P md ops Q T n (l.setIfInBounds i true) (a.put oi.dst v) w) : wpAnyL P md ops Q T (n + 1) l a w := by
 have hr' : i ∈ Region.ready md ops l := by simpa using hr
 exact wpAnyL_first hi (Region.noSelect_spec hs) hQ hT hTi n l a w (Region.free_spec hi hf) hr' hy hTl hcl (h ((hTi l w).2 hTl) (hcl.set hr'))
theorem wpAnyL_op {i : Nat} {o : Oper} {n : Nat} {l : Array Bool} {a : Act} {w : World} (hr : Region.ready md ops l = [i]) (ho : ops[i]? = some o) (hcl : Closed md ops l)
  (h : ∀ K' : Act → World → Prop, Shut (∀ a w, T (l.setIfInBounds i true) w → (T (l.setIfInBounds i true) w → Closed md ops (l.setIfInBounds i true) → wpAnyL P md ops Q T n (l.setIfInBounds i true) a w) → K' a w) → if Region.wanted o (yielded ops a.tmps) = true then Oper.wp P o a w K' Q else K' (a.put o.dst undef) w) :
  wpAnyL P md ops Q T (n + 1) l a w := by
 have hi : i ∈ Region.ready md ops l := by rw [hr]; exact List.mem_singleton_self _
 refine ⟨fun h0 => (by rw [hr] at h0; cases h0), fun j hj => ?_⟩
 rw [hr] at hj
 obtain rfl := List.mem_singleton.1 hj
 exact wpOp_step ho fun K' hK => h K' fun a w hS hW => hK a w ⟨hS, hW hS (hcl.set hi)⟩
theorem wpAnyL_op2 {i j : Nat} {o o' : Oper} {n : Nat} {l : Array Bool} {a : Act} {w : World} (hr : Region.ready md ops l = [i, j]) (ho : ops[i]? = some o) (ho' : ops[j]? = some o') (hcl : Closed md ops l)
  (h : ∀ K' : Act → World → Prop, Shut (∀ a w, T (l.setIfInBounds i true) w → (T (l.setIfInBounds i true) w → Closed md ops (l.setIfInBounds i true) → wpAnyL P md ops Q T n (l.setIfInBounds i true) a w) → K' a w) → if Region.wanted o (yielded ops a.tmps) = true then Oper.wp P o a w K' Q else K' (a.put o.dst undef) w)
  (h' : ∀ K' : Act → World → Prop, Shut (∀ a w, T (l.setIfInBounds j true) w → (T (l.setIfInBounds j true) w → Closed md ops (l.setIfInBounds j true) → wpAnyL P md ops Q T n (l.setIfInBounds j true) a w) → K' a w) → if Region.wanted o' (yielded ops a.tmps) = true then Oper.wp P o' a w K' Q else K' (a.put o'.dst undef) w) :
  wpAnyL P md ops Q T (n + 1) l a w := by
 have hi : i ∈ Region.ready md ops l := by rw [hr]; simp
 have hj : j ∈ Region.ready md ops l := by rw [hr]; simp
 refine ⟨fun h0 => (by rw [hr] at h0; cases h0), fun k hk => ?_⟩
 rw [hr] at hk
 rcases List.mem_cons.1 hk with rfl | hk
 ·exact wpOp_step ho fun K' hK => h K' fun a w hS hW => hK a w ⟨hS, hW hS (hcl.set hi)⟩
 ·obtain rfl := List.mem_singleton.1 hk
  exact wpOp_step ho' fun K' hK => h' K' fun a w hS hW => hK a w ⟨hS, hW hS (hcl.set hj)⟩
theorem wpAnyL_done {l : Array Bool} {a : Act} {w : World} (hr : Region.ready md ops l = []) (h : Q .normal a w) : ∀ n, wpAnyL P md ops Q T n l a w
 | 0 => ⟨hr, h⟩
 | _ + 1 => ⟨fun _ => h, by rw [hr]; simp⟩
theorem closed_none {k : Nat} : Closed md ops (Array.replicate k false) := fun j o ho hl => by
 rcases Nat.lt_or_ge j k with h' | h'
 ·simp [h'] at hl
 ·simp [h'] at hl
theorem wp_region_L {id : Nat} {a : Act} {w : World} (hm : P.follows .mixedOrders = true) (hT : T (Array.replicate ops.size false) w.drew)
  (h : T (Array.replicate ops.size false) w.drew → Closed .any ops (Array.replicate ops.size false) → wpAnyL P .any ops Q T ops.size (Array.replicate ops.size false) a w.drew) : (Code.region id ops true).wp P Q a w :=
 wp_region_any hm (wpAny_of_L _ _ _ _ (h hT closed_none))
def Tw (F0 : World → Prop) (L : List (Nat × (World → Prop))) (l : Array Bool) (w : World) : Prop := F0 w ∧ ∀ p ∈ L, l.getD p.1 false = true ∨ p.2 w
theorem Tw_set {F0 : World → Prop} {L : List (Nat × (World → Prop))} {i : Nat} (h : (L.all fun p => p.1 != i) = true) (l : Array Bool) (w : World) : Tw F0 L (l.setIfInBounds i true) w ↔ Tw F0 L l w := by
 have h1 : ∀ p ∈ L, (l.setIfInBounds i true).getD p.1 false = l.getD p.1 false := fun p hp => by
  have h2 := List.all_eq_true.1 h p hp
  exact getD_set_ne false (fun e => by subst e; simp at h2)
 unfold Tw
 constructor
 ·rintro ⟨a, b⟩
  exact ⟨a, fun p hp => by rw [← h1 p hp]; exact b p hp⟩
 ·rintro ⟨a, b⟩
  exact ⟨a, fun p hp => by rw [h1 p hp]; exact b p hp⟩
theorem Tw_get {F0 : World → Prop} {L : List (Nat × (World → Prop))} {i k : Nat} {F : World → Prop} (hp : (k, F) ∈ L) (hw : waits md ops k i = true) : ∀ l w, Closed md ops l → l.getD i true = false → Tw F0 L l w → F w := fun l w hc hi hT => by
 rcases hT.2 _ hp with h | h
 ·have h1 := hc.unlisted hw hi
  rw [h1] at h
  cases h
 ·exact h
theorem Tw_store {F0 : World → Prop} {L : List (Nat × (World → Prop))} {k : Nat} {l : Array Bool} {w w' : World} (h : Tw F0 L l w) (h0 : F0 w') (hk : k < l.size) (hL : ∀ p ∈ L, p.1 = k ∨ (p.2 w → p.2 w')) : Tw F0 L (l.setIfInBounds k true) w' :=
 ⟨h0, fun p hp => by
  rcases hL p hp with e | e
  ·left
   rw [e]
   simp [hk]
  ·rcases h.2 p hp with g | g
   ·exact .inl (getD_set_true g)
   ·exact .inr (e g)⟩
end
end Go.Proofs.YtjeadhfponlnnaaGreatDoor
set_option linter.unusedSimpArgs false
set_option linter.unusedVariables false
namespace Go.Proofs.YtjeadhfponlnnaaGreatDoor
open Go.RowKit Go.Pur Go.Clerk
open Go.Abs
set_option maxRecDepth 1000000
set_option maxHeartbeats 8000000
theorem set_far {W : World} {a b i j : Nat} {x : Option Value} {y : Value} (h : W.cell? ⟨a, i, none⟩ = x) (hn : a ≠ b) : (W.setCell ⟨b, j, none⟩ y).cell? ⟨a, i, none⟩ = x := by
 rw [← h]
 exact World.cell?_of_block (Below.heap_setCell _ _ _ _ hn)
theorem set_off {W : World} {a b i j : Nat} {x : Option Value} {y : Value} (h : W.cell? ⟨a, i, none⟩ = x) (hn : i ≠ j) : (W.setCell ⟨b, j, none⟩ y).cell? ⟨a, i, none⟩ = x := by
 rw [← h]
 exact World.cell?_setCell_other _ _ _ _ (by simp [hn])
theorem off_set_q {W : World} {o now q : Nat} {pv lv : Value} (h : W.heap[o]? = some (.cells #[ptrV now, pv, lv] 59 (0, 0))) : (W.setCell ⟨o, 0, none⟩ (ptrV q)).heap[o]? = some (.cells #[ptrV q, pv, lv] 59 (0, 0)) := by
 simp only [World.setCell, Array.getElem?_modify, if_pos rfl, h, Option.map_some]
 rfl
theorem off_set_1 {W : World} {o : Nat} {x pv lv y : Value} (h : W.heap[o]? = some (.cells #[x, pv, lv] 59 (0, 0))) : (W.setCell ⟨o, 1, none⟩ y).heap[o]? = some (.cells #[x, y, lv] 59 (0, 0)) := by
 simp only [World.setCell, Array.getElem?_modify, if_pos rfl, h, Option.map_some]
 rfl
theorem off_set_2 {W : World} {o : Nat} {x pv lv y : Value} (h : W.heap[o]? = some (.cells #[x, pv, lv] 59 (0, 0))) : (W.setCell ⟨o, 2, none⟩ y).heap[o]? = some (.cells #[x, pv, y] 59 (0, 0)) := by
 simp only [World.setCell, Array.getElem?_modify, if_pos rfl, h, Option.map_some]
 rfl
theorem box_set {W : World} {b : Nat} {x y : Value} {t : TypeId} (h : W.heap[b]? = some (.cells #[x] t (0, 0))) : (W.setCell ⟨b, 0, none⟩ y).heap[b]? = some (.cells #[y] t (0, 0)) := by
 simp only [World.setCell, Array.getElem?_modify, if_pos rfl, h, Option.map_some]
 rfl
structure Und (w w2 : World) (o q : Nat) (pv lv : Value) : Prop where
 b2 : w2.heap[w.heap.size]? = some (.cells #[ptrV o] 25 (0, 0))
 b4 : w2.heap[w.heap.size + 1]? = some (.cells #[nV 0] 29 (0, 0))
 off : w2.heap[o]? = some (.cells #[ptrV q, pv, lv] 59 (0, 0))
 but : But (· = o) w.heap.size w w2
theorem und_of {w w1 : World} {o now q : Nat} {pv lv : Value} (h : Boxes w w1 o) (h1 : w.heap[o]? = some (.cells #[ptrV now, pv, lv] 59 (0, 0))) : Und w ((w1.setCell ⟨w.heap.size + 1, 0, none⟩ (.int .i64 0)).setCell ⟨o, 0, none⟩ (ptrV q)).drew o q pv lv := by
 have hol : o < w.heap.size := (Array.getElem?_eq_some_iff.1 h1).1
 have h2 : w1.heap[o]? = some (.cells #[ptrV now, pv, lv] 59 (0, 0)) := (h.below.block o hol).trans h1
 refine ⟨?_, ?_, ?_, ⟨h.below.os, h.below.tape, h.below.output, ?_, fun k hk hX => ?_⟩⟩
 ·show ((w1.setCell ⟨w.heap.size + 1, 0, none⟩ (.int .i64 0)).setCell ⟨o, 0, none⟩ (ptrV q)).heap[w.heap.size]? = _
  rw [Below.heap_setCell _ _ _ _ (by show w.heap.size ≠ o; omega), Below.heap_setCell _ _ _ _ (by show w.heap.size ≠ w.heap.size + 1; omega)]
  exact h.t2
 ·show ((w1.setCell ⟨w.heap.size + 1, 0, none⟩ (.int .i64 0)).setCell ⟨o, 0, none⟩ (ptrV q)).heap[w.heap.size + 1]? = _
  rw [Below.heap_setCell _ _ _ _ (by show w.heap.size + 1 ≠ o; omega)]
  exact box_set h.t4
 ·refine off_set_q (now := now) (W := w1.setCell ⟨w.heap.size + 1, 0, none⟩ (.int .i64 0)) ?_
  rw [Below.heap_setCell _ _ _ _ (by show o ≠ w.heap.size + 1; omega)]
  exact h2
 ·show w.heap.size ≤ ((w1.setCell ⟨w.heap.size + 1, 0, none⟩ (.int .i64 0)).setCell ⟨o, 0, none⟩ (ptrV q)).heap.size
  simpa using h.below.size
 ·show ((w1.setCell ⟨w.heap.size + 1, 0, none⟩ (.int .i64 0)).setCell ⟨o, 0, none⟩ (ptrV q)).heap[k]? = _
  rw [Below.heap_setCell _ _ _ _ hX, Below.heap_setCell _ _ _ _ (by show k ≠ w.heap.size + 1; omega)]
  exact h.below.block k hk
theorem und_end {w w2 : World} {o q : Nat} {pv lv pv' lv' : Value} (h : Und w w2 o q pv lv) (hol : o < w.heap.size) :
  Und w (((w2.setCell ⟨o, 1, none⟩ pv').setCell ⟨o, 2, none⟩ lv').setCell ⟨w.heap.size + 1, 0, none⟩ (.int .i64 0)).drew o q pv' lv' := by
 refine ⟨?_, ?_, ?_, ⟨h.but.os, h.but.tape, h.but.output, ?_, fun k hk hX => ?_⟩⟩
 ·show (((w2.setCell ⟨o, 1, none⟩ pv').setCell ⟨o, 2, none⟩ lv').setCell ⟨w.heap.size + 1, 0, none⟩ (.int .i64 0)).heap[w.heap.size]? = _
  rw [Below.heap_setCell _ _ _ _ (by show w.heap.size ≠ w.heap.size + 1; omega), Below.heap_setCell _ _ _ _ (by show w.heap.size ≠ o; omega), Below.heap_setCell _ _ _ _ (by show w.heap.size ≠ o; omega)]
  exact h.b2
 ·refine box_set (W := (w2.setCell ⟨o, 1, none⟩ pv').setCell ⟨o, 2, none⟩ lv') (x := nV 0) ?_
  rw [Below.heap_setCell _ _ _ _ (by show w.heap.size + 1 ≠ o; omega), Below.heap_setCell _ _ _ _ (by show w.heap.size + 1 ≠ o; omega)]
  exact h.b4
 ·show (((w2.setCell ⟨o, 1, none⟩ pv').setCell ⟨o, 2, none⟩ lv').setCell ⟨w.heap.size + 1, 0, none⟩ (.int .i64 0)).heap[o]? = _
  rw [Below.heap_setCell _ _ _ _ (by show o ≠ w.heap.size + 1; omega)]
  exact off_set_2 (off_set_1 h.off)
 ·show w.heap.size ≤ (((w2.setCell ⟨o, 1, none⟩ pv').setCell ⟨o, 2, none⟩ lv').setCell ⟨w.heap.size + 1, 0, none⟩ (.int .i64 0)).heap.size
  simpa using h.but.size
 ·show (((w2.setCell ⟨o, 1, none⟩ pv').setCell ⟨o, 2, none⟩ lv').setCell ⟨w.heap.size + 1, 0, none⟩ (.int .i64 0)).heap[k]? = _
  rw [Below.heap_setCell _ _ _ _ (by show k ≠ w.heap.size + 1; omega), Below.heap_setCell _ _ _ _ hX, Below.heap_setCell _ _ _ _ hX]
  exact h.but.block k hk hX
theorem off_undo {w W : World} {o now q pb pc n lc : Nat} {la : Option Addr} {S : Off} {ps : List Value} (h : Und w W o q (.slice (some ⟨pb, 0, none⟩) n pc) (.slice la n lc)) (h1 : cellTy w o = some 59) (npo : ¬ pb = o) (hpl : pb < w.heap.size) (hqd : DeskAt w 0 q (S.past.getLastD S.now))
  (h3 : w.ownsRow 0 56 1 (.slice (some ⟨pb, 0, none⟩) (n + 1) pc) (n + 1) ps) (h4 : Desks w S.past ps) (h5 : w.ownsRow 0 9 1 (.slice la (n + 1) lc) (n + 1) (S.lines.map sV)) (hp : S.past.length = n + 1) (hl : S.lines.length = n + 1) :
  OffAt W o ⟨S.past.getLastD S.now, S.past.dropLast, S.lines.dropLast⟩ := by
 have hX : Ofs w 59 (· = o) := fun k hk => by subst hk; exact h1
 have e1 : S.past.dropLast.length = n := by rw [List.length_dropLast, hp]; rfl
 have e2 : S.lines.dropLast.length = n := by rw [List.length_dropLast, hl]; rfl
 have e3 : ps.take n = ps.dropLast := by rw [List.dropLast_eq_take, h4.len, hp]; rfl
 have e4 : (S.lines.map sV).take n = S.lines.dropLast.map sV := by rw [List.dropLast_eq_take, hl, List.map_take]; rfl
 refine ⟨q, _, _, ps.dropLast, h.off, hqd.but h.but (Nat.le_refl _) hX, ?_, (h4.init).but h.but (Nat.le_refl _) hX, ?_, by rw [e1, e2]⟩
 ·have r := row_cut h3 (m := n) (by omega)
  rw [e3] at r
  rw [e1]
  exact row_eqb r fun k hk => by
   simp only [Value.ownBlock, Option.some.injEq] at hk
   subst hk
   exact h.but.block _ hpl npo
 ·have r := row_cut h5 (m := n) (by omega)
  rw [e4] at r
  unfold TextsAt
  rw [e2]
  exact row_eqb r fun k hk => by
   obtain ⟨r1, r2⟩ := row_ty r hk
   exact h.but.block k r2 (ofs_ne hX r1 (by decide))
theorem tell_undo (o n : Nat) (S : Off) (line : Tx) (w : World) (hO : OffAt w o S) (hE : Env w) (h16 : 16 ≤ o) (hl : line.length ≤ 100000) (hp : parse line = (none, 0)) (h0 : S.lines.length = n + 1) (hn : n ≤ 1000) :
  Calls Tryz.prog 18 #[ptrV o, sV line] w fun e w' => e = .returned (nV 0) ∧ OffAt w' o ⟨S.past.getLastD S.now, S.past.dropLast, S.lines.dropLast⟩ ∧ But (· = o) w.heap.size w w' := by
 have mixed : Tryz.prog.follows .mixedOrders = true := by kernel_rfl
 have late : Tryz.prog.follows .lateStores = true := by kernel_rfl
 have HO := hidC hO
 have hol := hO.lt
 obtain ⟨now, pv, lv, ps, h1, h2, h3, h4, h5, h6⟩ := hO
 obtain ⟨la, lc, rfl⟩ := row_slice h5
 have hsz : S.past.length = n + 1 := h6.trans h0
 obtain ⟨pb, pc, rfl, hpc, hpt, hpl, hpn⟩ := row_at h3 (j := n) (by omega)
 obtain ⟨q, hq, hqd⟩ := h4.last S.now (by intro h; rw [h] at hsz; cases hsz)
 rw [show S.past.length - 1 = n by omega] at hq
 rw [hq] at hpc
 have npo : ¬ pb = o := by
  intro h
  subst h
  unfold cellTy at hpt
  simp only [h1] at hpt
  cases hpt
 rw [h6, h0] at h1
 have HI := hidC (fun W (hW : Below w.heap.size w W) => invalid_calls o now W (off_cells ((hW.block o hol).trans h1)).1)
 have HP : Hid (∀ W, Below w.heap.size w W → Calls Tryz.prog 50 #[sV line] W fun e W' => e = .returned (.tuple #[.nilIface, .int .i64 0]) ∧ Below W.heap.size W W') := hidC (fun W hW => by have h := parsed_calls line W (hE.below hW hE.size) hl; rw [hp] at h; exact h)
 have hw0 : RowKit.wrap64 (n : Int) = n := IntWalk.wrap64_in _ (by omega)
 have hnn : (n : Int) < (n : Int) + 1 := by omega
 have hn0 : (0 : Int) ≤ (n : Int) := by omega
 have hnp : (n : Int) ≤ (pc : Int) := by omega
 have hll : n + 1 ≤ lc := by have := row_le h5; omega
 have hnl : (n : Int) ≤ (lc : Int) := by omega
 clear hp hE hq
 have hmf : ∀ (fn : Fn) (first cap : Array Value) (w : World), (Instr.makeFunc fn first cap).run Tryz.prog w = .ok (.func fn first cap) w := fun _ _ _ _ => rfl
 go_enter_defers Tryz.func18, Tryz.ntmps18
 go_wp2_with (go_at_call 49; refine (HI.out _ (((Below.refl _ _).alloc (Nat.le_refl _) _).alloc (by simp) _)).mono ?_; rintro e wa ⟨rfl, rfl⟩)
 go_wp2_with fail
 go_at_call 50
 refine (HP.out _ (((Below.refl _ _).alloc (Nat.le_refl _) _).alloc (by simp) _)).mono ?_
 rintro e w1 ⟨rfl, hB1⟩
 have hBx := hidC (boxes_of hB1)
 clear hB1
 obtain ⟨c2, z2⟩ := one_cell hBx.out.t2
 obtain ⟨c4, z4⟩ := one_cell hBx.out.t4
 obtain ⟨co0, co1, co2, zo⟩ := off_cells ((hBx.out.below.block o hol).trans h1)
 have n4 : ¬ o = w.heap.size + 1 := by omega
 have n5 : ¬ pb = w.heap.size + 1 := by omega
 have cp := (hBx.out.below.cell (p := ⟨pb, n, none⟩) hpl).trans hpc
 go_wp2_with fail
 go_region
 go_wp2_with fail
 obtain ⟨w2, hw2⟩ : ∃ x, ((w1.setCell ⟨w.heap.size + 1, 0, none⟩ (.int .i64 0)).setCell ⟨o, 0, none⟩ (ptrV q)).drew = x := ⟨_, rfl⟩
 have hU := hidC (und_of (q := q) hBx.out h1)
 rw [hw2] at hU
 have d2 := (one_cell hU.out.b2).1
 have d4 := one_cell hU.out.b4
 obtain ⟨d0, d1, d3, dz⟩ := off_cells hU.out.off
 rw [hw2]
 clear co0 co1 co2 c2 c4 z2 z4 cp zo
 obtain ⟨d4, y4⟩ := d4
 have y1 := dz 1
 have y3 := dz 2
 have Hw2 := hidC hw2
 clear hw2
 have n2 : ¬ o = w.heap.size := by omega
 have n3 : ¬ w.heap.size = o := by omega
 refine wp_region_noPanic ?_
 have HT0 : Tw (fun w' => w'.cell? ⟨w.heap.size, 0, none⟩ = some (ptrV o)) [(16, fun w' : World => w'.cell? ⟨o, 1, none⟩ = some (.slice (some ⟨pb, 0, none⟩) (n + 1) pc)), (19, fun w' : World => w'.cell? ⟨o, 2, none⟩ = some (.slice la (n + 1) lc))] (Array.replicate 20 false) w2.drew := ⟨d2, fun p hp => by simp only [List.mem_cons, List.not_mem_nil, or_false] at hp; rcases hp with rfl | rfl <;> right <;> first | exact d1 | exact d3⟩
 refine wp_region_L (T := Tw (fun w' => w'.cell? ⟨w.heap.size, 0, none⟩ = some (ptrV o)) [(16, fun w' : World => w'.cell? ⟨o, 1, none⟩ = some (.slice (some ⟨pb, 0, none⟩) (n + 1) pc)), (19, fun w' : World => w'.cell? ⟨o, 2, none⟩ = some (.slice la (n + 1) lc))]) mixed HT0 ?_
 intro HT HC
 clear HT0
 refine wpAnyL_take (i := 0) (oi := { dst := some 45, op := Op.load 25 (Operand.tmp 2), type := 25, pos := "clerk.go:403", after := #[], guard := none }) (v := ?v0) (S := (fun w' => w'.cell? ⟨w.heap.size, 0, none⟩ = some (ptrV o))) rfl (by kernel_rfl) (by kernel_rfl) (by kernel_rfl) (fun _ _ _ h => h) (fun _ _ _ _ h => h.1) (Tw_set rfl) (Or.inl ⟨by rfl, ?hy0⟩) HT HC ?rest0
 case hy0 => ((try dsimp only); intro wS hS; (try dsimp only at hS); (try go_split_ands); go_simp; try with_reducible rfl)
 intro h1 h2
 clear HT HC
 have HT := h1
 have HC := h2
 clear h1 h2
 try simp only [Act.put, List.setIfInBounds_toArray, List.set_cons_zero, List.set_cons_succ]
 refine wpAnyL_take (i := 1) (oi := { dst := some 46, op := Op.load 25 (Operand.tmp 2), type := 25, pos := "clerk.go:403", after := #[{ on := 16, ground := Ground.gcOnly Departure.lateStores }], guard := none }) (v := ?v1) (S := (fun w' => w'.cell? ⟨w.heap.size, 0, none⟩ = some (ptrV o))) rfl (by kernel_rfl) (by kernel_rfl) (by kernel_rfl) (fun _ _ _ h => h) (fun _ _ _ _ h => h.1) (Tw_set rfl) (Or.inl ⟨by rfl, ?hy1⟩) HT HC ?rest1
 case hy1 => ((try dsimp only); intro wS hS; (try dsimp only at hS); (try go_split_ands); go_simp; try with_reducible rfl)
 intro h1 h2
 clear HT HC
 have HT := h1
 have HC := h2
 clear h1 h2
 try simp only [Act.put, List.setIfInBounds_toArray, List.set_cons_zero, List.set_cons_succ]
 refine wpAnyL_take (i := 2) (oi := { dst := some 47, op := Op.load 25 (Operand.tmp 2), type := 25, pos := "clerk.go:403", after := #[], guard := none }) (v := ?v2) (S := (fun w' => w'.cell? ⟨w.heap.size, 0, none⟩ = some (ptrV o))) rfl (by kernel_rfl) (by kernel_rfl) (by kernel_rfl) (fun _ _ _ h => h) (fun _ _ _ _ h => h.1) (Tw_set rfl) (Or.inl ⟨by rfl, ?hy2⟩) HT HC ?rest2
 case hy2 => ((try dsimp only); intro wS hS; (try dsimp only at hS); (try go_split_ands); go_simp; try with_reducible rfl)
 intro h1 h2
 clear HT HC
 have HT := h1
 have HC := h2
 clear h1 h2
 try simp only [Act.put, List.setIfInBounds_toArray, List.set_cons_zero, List.set_cons_succ]
 refine wpAnyL_take (i := 3) (oi := { dst := some 48, op := Op.nilCheck (Operand.tmp 47), type := 0, pos := "clerk.go:403", after := #[{ on := 2, ground := Ground.data }], guard := none }) (v := ?v3) (S := (fun _ => True)) rfl (by kernel_rfl) (by kernel_rfl) (by kernel_rfl) (fun _ _ _ h => h) (fun _ _ _ _ _ => trivial) (Tw_set rfl) (Or.inl ⟨by rfl, ?hy3⟩) HT HC ?rest3
 case hy3 => ((try dsimp only); intro wS hS; (try dsimp only at hS); (try go_split_ands); go_simp; try with_reducible rfl)
 intro h1 h2
 clear HT HC
 have HT := h1
 have HC := h2
 clear h1 h2
 try simp only [Act.put, List.setIfInBounds_toArray, List.set_cons_zero, List.set_cons_succ]
 refine wpAnyL_take (i := 4) (oi := { dst := some 49, op := Op.fieldAddr 59 (Operand.tmp 48) 1, type := 0, pos := "clerk.go:403", after := #[{ on := 3, ground := Ground.data }], guard := none }) (v := ?v4) (S := (fun _ => True)) rfl (by kernel_rfl) (by kernel_rfl) (by kernel_rfl) (fun _ _ _ h => h) (fun _ _ _ _ _ => trivial) (Tw_set rfl) (Or.inl ⟨by rfl, ?hy4⟩) HT HC ?rest4
 case hy4 => ((try dsimp only); intro wS hS; (try dsimp only at hS); (try go_split_ands); go_simp; try with_reducible rfl)
 intro h1 h2
 clear HT HC
 have HT := h1
 have HC := h2
 clear h1 h2
 try simp only [Act.put, List.setIfInBounds_toArray, List.set_cons_zero, List.set_cons_succ]
 refine wpAnyL_take (i := 5) (oi := { dst := some 50, op := Op.load 57 (Operand.tmp 49), type := 57, pos := "clerk.go:403", after := #[{ on := 4, ground := Ground.data }], guard := none }) (v := ?v5) (S := (fun w' : World => w'.cell? ⟨o, 1, none⟩ = some (.slice (some ⟨pb, 0, none⟩) (n + 1) pc))) rfl (by kernel_rfl) (by kernel_rfl) (by kernel_rfl) (fun _ _ _ h => h) (Tw_get (k := 16) (by simp) (by kernel_rfl)) (Tw_set rfl) (Or.inl ⟨by rfl, ?hy5⟩) HT HC ?rest5
 case hy5 => ((try dsimp only); intro wS hS; (try dsimp only at hS); (try go_split_ands); go_simp; try with_reducible rfl)
 intro h1 h2
 clear HT HC
 have HT := h1
 have HC := h2
 clear h1 h2
 try simp only [Act.put, List.setIfInBounds_toArray, List.set_cons_zero, List.set_cons_succ]
 refine wpAnyL_take (i := 6) (oi := { dst := some 51, op := Op.move (Operand.tmp 6), type := 3, pos := "clerk.go:403", after := #[], guard := none }) (v := ?v6) (S := (fun _ => True)) rfl (by kernel_rfl) (by kernel_rfl) (by kernel_rfl) (fun _ _ _ h => h) (fun _ _ _ _ _ => trivial) (Tw_set rfl) (Or.inl ⟨by rfl, ?hy6⟩) HT HC ?rest6
 case hy6 => ((try dsimp only); intro wS hS; (try dsimp only at hS); (try go_split_ands); go_simp; try with_reducible rfl)
 intro h1 h2
 clear HT HC
 have HT := h1
 have HC := h2
 clear h1 h2
 try simp only [Act.put, List.setIfInBounds_toArray, List.set_cons_zero, List.set_cons_succ]
 refine wpAnyL_take (i := 7) (oi := { dst := some 52, op := Op.slice 57 (Operand.tmp 50) none (some (Operand.tmp 51)) none, type := 57, pos := "clerk.go:403", after := #[{ on := 5, ground := Ground.data }, { on := 6, ground := Ground.data }], guard := none }) (v := ?v7) (S := (fun _ => True)) rfl (by kernel_rfl) (by kernel_rfl) (by kernel_rfl) (fun _ _ _ h => h) (fun _ _ _ _ _ => trivial) (Tw_set rfl) (Or.inl ⟨by rfl, ?hy7⟩) HT HC ?rest7
 case hy7 => ((try dsimp only); intro wS hS; (try dsimp only at hS); (try go_split_ands); go_simp; try with_reducible rfl)
 intro h1 h2
 clear HT HC
 have HT := h1
 have HC := h2
 clear h1 h2
 try simp only [Act.put, List.setIfInBounds_toArray, List.set_cons_zero, List.set_cons_succ]
 refine wpAnyL_take (i := 8) (oi := { dst := some 53, op := Op.load 25 (Operand.tmp 2), type := 25, pos := "clerk.go:403", after := #[], guard := none }) (v := ?v8) (S := (fun w' => w'.cell? ⟨w.heap.size, 0, none⟩ = some (ptrV o))) rfl (by kernel_rfl) (by kernel_rfl) (by kernel_rfl) (fun _ _ _ h => h) (fun _ _ _ _ h => h.1) (Tw_set rfl) (Or.inl ⟨by rfl, ?hy8⟩) HT HC ?rest8
 case hy8 => ((try dsimp only); intro wS hS; (try dsimp only at hS); (try go_split_ands); go_simp; try with_reducible rfl)
 intro h1 h2
 clear HT HC
 have HT := h1
 have HC := h2
 clear h1 h2
 try simp only [Act.put, List.setIfInBounds_toArray, List.set_cons_zero, List.set_cons_succ]
 refine wpAnyL_take (i := 9) (oi := { dst := some 54, op := Op.nilCheck (Operand.tmp 53), type := 0, pos := "clerk.go:403", after := #[{ on := 8, ground := Ground.data }], guard := none }) (v := ?v9) (S := (fun _ => True)) rfl (by kernel_rfl) (by kernel_rfl) (by kernel_rfl) (fun _ _ _ h => h) (fun _ _ _ _ _ => trivial) (Tw_set rfl) (Or.inl ⟨by rfl, ?hy9⟩) HT HC ?rest9
 case hy9 => ((try dsimp only); intro wS hS; (try dsimp only at hS); (try go_split_ands); go_simp; try with_reducible rfl)
 intro h1 h2
 clear HT HC
 have HT := h1
 have HC := h2
 clear h1 h2
 try simp only [Act.put, List.setIfInBounds_toArray, List.set_cons_zero, List.set_cons_succ]
 refine wpAnyL_take (i := 10) (oi := { dst := some 55, op := Op.fieldAddr 59 (Operand.tmp 54) 2, type := 0, pos := "clerk.go:403", after := #[{ on := 9, ground := Ground.data }], guard := none }) (v := ?v10) (S := (fun _ => True)) rfl (by kernel_rfl) (by kernel_rfl) (by kernel_rfl) (fun _ _ _ h => h) (fun _ _ _ _ _ => trivial) (Tw_set rfl) (Or.inl ⟨by rfl, ?hy10⟩) HT HC ?rest10
 case hy10 => ((try dsimp only); intro wS hS; (try dsimp only at hS); (try go_split_ands); go_simp; try with_reducible rfl)
 intro h1 h2
 clear HT HC
 have HT := h1
 have HC := h2
 clear h1 h2
 try simp only [Act.put, List.setIfInBounds_toArray, List.set_cons_zero, List.set_cons_succ]
 refine wpAnyL_take (i := 11) (oi := { dst := some 56, op := Op.load 22 (Operand.tmp 55), type := 22, pos := "clerk.go:403", after := #[{ on := 10, ground := Ground.data }], guard := none }) (v := ?v11) (S := (fun w' : World => w'.cell? ⟨o, 2, none⟩ = some (.slice la (n + 1) lc))) rfl (by kernel_rfl) (by kernel_rfl) (by kernel_rfl) (fun _ _ _ h => h) (Tw_get (k := 19) (by simp) (by kernel_rfl)) (Tw_set rfl) (Or.inl ⟨by rfl, ?hy11⟩) HT HC ?rest11
 case hy11 => ((try dsimp only); intro wS hS; (try dsimp only at hS); (try go_split_ands); go_simp; try with_reducible rfl)
 intro h1 h2
 clear HT HC
 have HT := h1
 have HC := h2
 clear h1 h2
 try simp only [Act.put, List.setIfInBounds_toArray, List.set_cons_zero, List.set_cons_succ]
 refine wpAnyL_take (i := 12) (oi := { dst := some 57, op := Op.move (Operand.tmp 6), type := 3, pos := "clerk.go:403", after := #[], guard := none }) (v := ?v12) (S := (fun _ => True)) rfl (by kernel_rfl) (by kernel_rfl) (by kernel_rfl) (fun _ _ _ h => h) (fun _ _ _ _ _ => trivial) (Tw_set rfl) (Or.inl ⟨by rfl, ?hy12⟩) HT HC ?rest12
 case hy12 => ((try dsimp only); intro wS hS; (try dsimp only at hS); (try go_split_ands); go_simp; try with_reducible rfl)
 intro h1 h2
 clear HT HC
 have HT := h1
 have HC := h2
 clear h1 h2
 try simp only [Act.put, List.setIfInBounds_toArray, List.set_cons_zero, List.set_cons_succ]
 refine wpAnyL_take (i := 13) (oi := { dst := some 58, op := Op.slice 22 (Operand.tmp 56) none (some (Operand.tmp 57)) none, type := 22, pos := "clerk.go:403", after := #[{ on := 11, ground := Ground.data }, { on := 12, ground := Ground.data }], guard := none }) (v := ?v13) (S := (fun _ => True)) rfl (by kernel_rfl) (by kernel_rfl) (by kernel_rfl) (fun _ _ _ h => h) (fun _ _ _ _ _ => trivial) (Tw_set rfl) (Or.inl ⟨by rfl, ?hy13⟩) HT HC ?rest13
 case hy13 => ((try dsimp only); intro wS hS; (try dsimp only at hS); (try go_split_ands); go_simp; try with_reducible rfl)
 intro h1 h2
 clear HT HC
 have HT := h1
 have HC := h2
 clear h1 h2
 try simp only [Act.put, List.setIfInBounds_toArray, List.set_cons_zero, List.set_cons_succ]
 refine wpAnyL_take (i := 14) (oi := { dst := some 59, op := Op.nilCheck (Operand.tmp 45), type := 0, pos := "clerk.go:403", after := #[{ on := 0, ground := Ground.data }, { on := 0, ground := Ground.phase }, { on := 1, ground := Ground.textOnly Departure.lateStores }, { on := 2, ground := Ground.phase }, { on := 3, ground := Ground.phase }, { on := 4, ground := Ground.phase }, { on := 5, ground := Ground.phase }, { on := 6, ground := Ground.phase }, { on := 7, ground := Ground.phase }, { on := 8, ground := Ground.textOnly Departure.lateStores }, { on := 9, ground := Ground.textOnly Departure.lateStoresUnsure }, { on := 10, ground := Ground.textOnly Departure.lateStoresUnsure }, { on := 11, ground := Ground.phase }, { on := 12, ground := Ground.textOnly Departure.lateStores }, { on := 13, ground := Ground.textOnly Departure.lateStoresUnsure }], guard := none }) (v := ?v14) (S := (fun _ => True)) rfl (by kernel_rfl) (by kernel_rfl) (by kernel_rfl) (fun _ _ _ h => h) (fun _ _ _ _ _ => trivial) (Tw_set rfl) (Or.inl ⟨by rfl, ?hy14⟩) HT HC ?rest14
 case hy14 => ((try dsimp only); intro wS hS; (try dsimp only at hS); (try go_split_ands); go_simp; try with_reducible rfl)
 intro h1 h2
 clear HT HC
 have HT := h1
 have HC := h2
 clear h1 h2
 try simp only [Act.put, List.setIfInBounds_toArray, List.set_cons_zero, List.set_cons_succ]
 refine wpAnyL_take (i := 15) (oi := { dst := some 60, op := Op.fieldAddr 59 (Operand.tmp 59) 1, type := 0, pos := "clerk.go:403", after := #[{ on := 14, ground := Ground.data }, { on := 0, ground := Ground.phase }, { on := 1, ground := Ground.textOnly Departure.lateStores }, { on := 2, ground := Ground.phase }, { on := 3, ground := Ground.phase }, { on := 4, ground := Ground.phase }, { on := 5, ground := Ground.phase }, { on := 6, ground := Ground.phase }, { on := 7, ground := Ground.phase }, { on := 8, ground := Ground.textOnly Departure.lateStores }, { on := 9, ground := Ground.textOnly Departure.lateStoresUnsure }, { on := 10, ground := Ground.textOnly Departure.lateStoresUnsure }, { on := 11, ground := Ground.phase }, { on := 12, ground := Ground.textOnly Departure.lateStores }, { on := 13, ground := Ground.textOnly Departure.lateStoresUnsure }], guard := none }) (v := ?v15) (S := (fun _ => True)) rfl (by kernel_rfl) (by kernel_rfl) (by kernel_rfl) (fun _ _ _ h => h) (fun _ _ _ _ _ => trivial) (Tw_set rfl) (Or.inl ⟨by rfl, ?hy15⟩) HT HC ?rest15
 case hy15 => ((try dsimp only); intro wS hS; (try dsimp only at hS); (try go_split_ands); go_simp; try with_reducible rfl)
 intro h1 h2
 clear HT HC
 have HT := h1
 have HC := h2
 clear h1 h2
 try simp only [Act.put, List.setIfInBounds_toArray, List.set_cons_zero, List.set_cons_succ]
 refine wpAnyL_op (i := 16) (o := { dst := none, op := Op.store 57 (Operand.tmp 60) (Operand.tmp 52), type := 0, pos := "clerk.go:403", after := #[{ on := 15, ground := Ground.data }, { on := 7, ground := Ground.data }, { on := 0, ground := Ground.phase }, { on := 1, ground := Ground.textOnly Departure.lateStores }, { on := 2, ground := Ground.phase }, { on := 3, ground := Ground.phase }, { on := 4, ground := Ground.phase }, { on := 5, ground := Ground.phase }, { on := 6, ground := Ground.phase }, { on := 7, ground := Ground.phase }, { on := 8, ground := Ground.textOnly Departure.lateStores }, { on := 9, ground := Ground.textOnly Departure.lateStoresUnsure }, { on := 10, ground := Ground.textOnly Departure.lateStoresUnsure }, { on := 11, ground := Ground.phase }, { on := 12, ground := Ground.textOnly Departure.lateStores }, { on := 13, ground := Ground.textOnly Departure.lateStoresUnsure }], guard := none }) (by kernel_rfl) rfl HC (fun K hK => ?_)
 go_simp
 refine hK.out _ _ (Tw_store HT (set_far (i := 0) HT.1 (by omega)) (by simp) (fun p hp => by simp only [List.mem_cons, List.not_mem_nil, or_false] at hp; rcases hp with rfl | rfl <;> first | exact .inl rfl | exact .inr (fun h => set_off h (by decide)))) (fun h1 h2 => ?_)
 clear hK HT HC K
 have HT := h1
 have HC := h2
 clear h1 h2
 try simp only [Act.put, List.setIfInBounds_toArray, List.set_cons_zero, List.set_cons_succ]
 refine wpAnyL_take (i := 17) (oi := { dst := some 61, op := Op.nilCheck (Operand.tmp 46), type := 0, pos := "clerk.go:403", after := #[{ on := 1, ground := Ground.data }, { on := 0, ground := Ground.phase }, { on := 1, ground := Ground.phase }, { on := 2, ground := Ground.phase }, { on := 3, ground := Ground.phase }, { on := 4, ground := Ground.phase }, { on := 5, ground := Ground.phase }, { on := 6, ground := Ground.phase }, { on := 7, ground := Ground.phase }, { on := 8, ground := Ground.phase }, { on := 9, ground := Ground.phase }, { on := 10, ground := Ground.phase }, { on := 11, ground := Ground.phase }, { on := 12, ground := Ground.phase }, { on := 13, ground := Ground.phase }, { on := 14, ground := Ground.phase }, { on := 15, ground := Ground.phase }, { on := 16, ground := Ground.phase }], guard := none }) (v := ?v17) (S := (fun _ => True)) rfl (by kernel_rfl) (by kernel_rfl) (by kernel_rfl) (fun _ _ _ h => h) (fun _ _ _ _ _ => trivial) (Tw_set rfl) (Or.inl ⟨by rfl, ?hy17⟩) HT HC ?rest17
 case hy17 => ((try dsimp only); intro wS hS; (try dsimp only at hS); (try go_split_ands); go_simp; try with_reducible rfl)
 intro h1 h2
 clear HT HC
 have HT := h1
 have HC := h2
 clear h1 h2
 try simp only [Act.put, List.setIfInBounds_toArray, List.set_cons_zero, List.set_cons_succ]
 refine wpAnyL_take (i := 18) (oi := { dst := some 62, op := Op.fieldAddr 59 (Operand.tmp 61) 2, type := 0, pos := "clerk.go:403", after := #[{ on := 17, ground := Ground.data }, { on := 0, ground := Ground.phase }, { on := 1, ground := Ground.phase }, { on := 2, ground := Ground.phase }, { on := 3, ground := Ground.phase }, { on := 4, ground := Ground.phase }, { on := 5, ground := Ground.phase }, { on := 6, ground := Ground.phase }, { on := 7, ground := Ground.phase }, { on := 8, ground := Ground.phase }, { on := 9, ground := Ground.phase }, { on := 10, ground := Ground.phase }, { on := 11, ground := Ground.phase }, { on := 12, ground := Ground.phase }, { on := 13, ground := Ground.phase }, { on := 14, ground := Ground.phase }, { on := 15, ground := Ground.phase }, { on := 16, ground := Ground.phase }], guard := none }) (v := ?v18) (S := (fun _ => True)) rfl (by kernel_rfl) (by kernel_rfl) (by kernel_rfl) (fun _ _ _ h => h) (fun _ _ _ _ _ => trivial) (Tw_set rfl) (Or.inl ⟨by rfl, ?hy18⟩) HT HC ?rest18
 case hy18 => ((try dsimp only); intro wS hS; (try dsimp only at hS); (try go_split_ands); go_simp; try with_reducible rfl)
 intro h1 h2
 clear HT HC
 have HT := h1
 have HC := h2
 clear h1 h2
 try simp only [Act.put, List.setIfInBounds_toArray, List.set_cons_zero, List.set_cons_succ]
 refine wpAnyL_op (i := 19) (o := { dst := none, op := Op.store 22 (Operand.tmp 62) (Operand.tmp 58), type := 0, pos := "clerk.go:403", after := #[{ on := 18, ground := Ground.data }, { on := 13, ground := Ground.data }, { on := 16, ground := Ground.chain }, { on := 0, ground := Ground.phase }, { on := 1, ground := Ground.phase }, { on := 2, ground := Ground.phase }, { on := 3, ground := Ground.phase }, { on := 4, ground := Ground.phase }, { on := 5, ground := Ground.phase }, { on := 6, ground := Ground.phase }, { on := 7, ground := Ground.phase }, { on := 8, ground := Ground.phase }, { on := 9, ground := Ground.phase }, { on := 10, ground := Ground.phase }, { on := 11, ground := Ground.phase }, { on := 12, ground := Ground.phase }, { on := 13, ground := Ground.phase }, { on := 14, ground := Ground.phase }, { on := 15, ground := Ground.phase }, { on := 16, ground := Ground.phase }], guard := none }) (by kernel_rfl) rfl HC (fun K hK => ?_)
 go_simp
 refine hK.out _ _ (Tw_store HT (set_far (i := 0) HT.1 (by omega)) (by simp) (fun p hp => by simp only [List.mem_cons, List.not_mem_nil, or_false] at hp; rcases hp with rfl | rfl <;> first | exact .inl rfl | exact .inr (fun h => set_off h (by decide)))) (fun h1 h2 => ?_)
 clear hK HT HC K
 have HT := h1
 have HC := h2
 clear h1 h2
 try simp only [Act.put, List.setIfInBounds_toArray, List.set_cons_zero, List.set_cons_succ]
 refine wpAnyL_done (by kernel_rfl) ?_ _
 refine NoPanic.normal ?_
 clear HT HC
 go_wp2_with fail
 have hU2 := und_end (pv' := .slice (some ⟨pb, 0, none⟩) n pc) (lv' := .slice la n lc) hU.out hol
 have q4 := (one_cell hU2.b4).1
 have q5 : (((w2.setCell ⟨o, 1, none⟩ (.slice (some ⟨pb, 0, none⟩) n pc)).setCell ⟨o, 2, none⟩ (.slice la n lc)).setCell ⟨w.heap.size + 1, 0, none⟩ (.int .i64 0)).cell? ⟨w.heap.size + 1, 0, none⟩ = some (.int .i64 0) := q4
 refine ⟨_, by simp only [results, Tryz.results18]; simp [go_sem, q5], rfl, ?_, hU2.but⟩
 rw [hsz] at h3
 unfold TextsAt at h5
 rw [h0] at h5
 exact off_undo (now := now) hU2 HO.out.ty npo hpl hqd h3 h4 h5 hsz h0
end Go.Proofs.YtjeadhfponlnnaaGreatDoor

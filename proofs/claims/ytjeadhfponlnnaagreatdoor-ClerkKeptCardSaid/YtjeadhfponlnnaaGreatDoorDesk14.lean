/-
  Where a desk and an office lie in memory.
  Conditions: none; definitions and lemmas.
-/
import Derived.Test.YtjeadhfponlnnaaGreatDoorKit14
import Derived.Test.YtjeadhfponlnnaaGreatDoorPlain14
import Derived.Maps.RangeRun
import Derived.ArgAppend
set_option linter.unusedSimpArgs false
set_option linter.unusedVariables false
set_option linter.unusedSectionVars false
namespace Go.Clerk
open Go.Abs Go.Pur Go.RowKit
set_option maxRecDepth 100000
variable {P : Program}
theorem hidC {p : Prop} (h : p) : Hid p := h
theorem alook_runC {w : World} {t : TypeId} {k v : Value} {es : List MapEntry} {c r : Nat} {ok : Bool} (hr : w.heap[r]? = some (.map es.toArray c)) (ha : alook P t es k ok = some v) : (Instr.lookup t (.map (some r)) k ok).run P w = .ok v w := by
 unfold alook at ha
 split at ha
 ·rename_i kt et ht
  have hu := mapTy_some ht
  split at ha
  ·rename_i i u hf
   obtain ⟨c1, c2⟩ := run_afind hf w
   split at ha
   ·cases ha
    simp [Instr.lookup, run_underlying hu, getObj, hr, Sem.run, c1, c2, Result.andThen, lookRes]
    cases ok <;> rfl
   ·cases ha
  ·rename_i hf
   split at ha
   ·rename_i z hz
    split at ha
    ·cases ha
     obtain ⟨c1, c2⟩ := run_afind hf w
     have c3 := run_azero hz w
     simp [Instr.lookup, run_underlying hu, getObj, hr, Sem.run, c1, c2, c3, Result.andThen, lookRes]
     cases ok <;> rfl
    ·cases ha
   ·cases ha
  ·cases ha
 ·cases ha
section
variable {V : Type}
def kGet (k : Tx) : List (Tx × V) → Option V
 | [] => .none
 | e :: l => match decide (e.1 = k) with
  | true => some e.2
  | false => kGet k l
def kSet (k : Tx) (v : V) : List (Tx × V) → List (Tx × V)
 | [] => [(k, v)]
 | e :: l => match decide (e.1 = k) with
  | true => (k, v) :: l
  | false => e :: kSet k v l
def kv (m : Mp Tx V) : List (Tx × V) := m.map fun e => (e.1, e.2.1)
theorem kGet_kv {k : Tx} : ∀ {m : Mp Tx V}, kGet k (kv m) = mGet k m
 | [] => rfl
 | e :: m => by
  unfold mGet
  show (match decide (e.1 = k) with | true => some e.2.1 | false => kGet k (kv m)) = _
  cases decide (e.1 = k)
  ·exact kGet_kv
  ·rfl
theorem kSet_kv {k : Tx} {v : V} {c : Nat} : ∀ {m : Mp Tx V}, kv (mSet c k v m) = kSet k v (kv m)
 | [] => rfl
 | e :: m => by
  unfold mSet
  show _ = (match decide (e.1 = k) with | true => (k, v) :: kv m | false => (e.1, e.2.1) :: kSet k v (kv m))
  rw [← kSet_kv (c := c)]
  cases decide (e.1 = k) <;> rfl
def StOK (m : Mp Tx V) (c : Nat) : Prop := (∀ s ∈ m.map (·.2.2), s < c) ∧ (m.map (·.2.2)).Nodup
theorem mSet_st {k : Tx} {v : V} {c : Nat} : ∀ {m : Mp Tx V}, (mSet c k v m).map (·.2.2) = m.map (·.2.2) ∧ mClk c k m = c ∨ (mSet c k v m).map (·.2.2) = m.map (·.2.2) ++ [c] ∧ mClk c k m = c + 1
 | [] => .inr ⟨rfl, rfl⟩
 | e :: m => by
  unfold mSet mClk
  cases decide (e.1 = k) with
  | true => exact .inl ⟨rfl, rfl⟩
  | false =>
   rcases mSet_st (k := k) (v := v) (c := c) (m := m) with ⟨h1, h2⟩ | ⟨h1, h2⟩
   ·exact .inl ⟨by simp only [List.map_cons, h1], h2⟩
   ·exact .inr ⟨by simp only [List.map_cons, h1, List.cons_append], h2⟩
theorem StOK.set {k : Tx} {v : V} {c : Nat} {m : Mp Tx V} (h : StOK m c) : StOK (mSet c k v m) (mClk c k m) := by
 obtain ⟨h1, h2⟩ := h
 rcases mSet_st (k := k) (v := v) (c := c) (m := m) with ⟨e1, e2⟩ | ⟨e1, e2⟩
 ·unfold StOK
  rw [e1, e2]
  exact ⟨h1, h2⟩
 ·unfold StOK
  rw [e1, e2]
  refine ⟨fun s hs => ?_, ?_⟩
  ·rcases List.mem_append.1 hs with h | h
   ·have := h1 s h; omega
   ·rw [List.mem_singleton.1 h]; omega
  ·rw [List.nodup_append]
   refine ⟨h2, by simp, fun a ha b hb e => ?_⟩
   rw [List.mem_singleton.1 hb] at e
   have := h1 a ha
   omega
def MapAt (W : World) (b : Nat) (vf : V → Value) (l : List (Tx × V)) : Prop := ∃ (m : Mp Tx V) (c : Nat), W.heap[b]? = some (.map (mE sV vf m).toArray c) ∧ kv m = l ∧ StOK m c
theorem MapAt.lt {W : World} {b : Nat} {vf : V → Value} {l : List (Tx × V)} (h : MapAt W b vf l) : b < W.heap.size := by
 obtain ⟨m, c, h, _⟩ := h
 exact (Array.getElem?_eq_some_iff.1 h).1
theorem MapAt.eqb {W W' : World} {b : Nat} {vf : V → Value} {l : List (Tx × V)} (h : MapAt W b vf l) (e : W'.heap[b]? = W.heap[b]?) : MapAt W' b vf l := by
 obtain ⟨m, c, h, h2⟩ := h
 exact ⟨m, c, e.trans h, h2⟩
theorem MapAt.below {W W' : World} {b n : Nat} {vf : V → Value} {l : List (Tx × V)} (h : MapAt W b vf l) (hb : Below n W W') (hn : b < n) : MapAt W' b vf l := h.eqb (hb.block b hn)
theorem MapAt.new {W : World} {vf : V → Value} : MapAt (W.alloc (.map #[] 0)) W.heap.size vf [] := ⟨[], 0, heap_alloc_new _ _, rfl, fun s h => (by cases h), List.nodup_nil⟩
theorem MapAt.len {W : World} {b : Nat} {vf : V → Value} {l : List (Tx × V)} (h : MapAt W b vf l) : ∃ es c, W.heap[b]? = some (.map es c) ∧ es.size = l.length := by
 obtain ⟨m, c, h, rfl, _⟩ := h
 exact ⟨_, c, h, by simp [mE, kv]⟩
theorem MapAt.lenRun {W : World} {b : Nat} {vf : V → Value} {l : List (Tx × V)} (h : MapAt W b vf l) {t k e : TypeId} (ht : P.underlying t = some (.map k e)) (ty : TypeId) : (Builtin.len_ #[t] ty #[.map (some b)]).run P W = .ok (.int .i64 l.length) W := by
 obtain ⟨es, c, h1, h2⟩ := h.len
 unfold Builtin.len_
 simp [run_underlying ht, getObj, Sem.run, h1, Result.andThen, go_sem, h2]
theorem MapAt.look {W : World} {b : Nat} {vf : V → Value} {l : List (Tx × V)} (h : MapAt W b vf l) {t kt et : TypeId} {d : V} (hm : mapTy P t = some (kt, et)) (hu : P.underlying kt = some .string) (hz : azero P et = some (vf d)) (hp : ∀ v, plainV (vf v) = true) (k : Tx) (ok : Bool) :
  (Instr.lookup t (.map (some b)) (sV k) ok).run P W = .ok (lookRes ok (vf ((kGet k l).getD d)) (kGet k l).isSome) W := by
 obtain ⟨m, c, h, rfl, _⟩ := h
 have := alook_runC h (look_m (P := P) (kf := sV) (vf := vf) (l := m) (k := k) (d := d) hm (key_str hu) hz hp (ok := ok))
 rw [kGet_kv]
 exact this
theorem MapAt.upd {W : World} {b : Nat} {vf : V → Value} {l : List (Tx × V)} (h : MapAt W b vf l) {t kt et : TypeId} (hm : mapTy P t = some (kt, et)) (hu : P.underlying kt = some .string) (k : Tx) (v : V) :
  ∃ o, (Instr.mapUpdate t (.map (some b)) (sV k) (vf v)).run P W = .ok () (itSet W b o) ∧ MapAt (itSet W b o) b vf (kSet k v l) := by
 obtain ⟨m, c, h, rfl, h2⟩ := h
 refine ⟨_, aupd_run h (upd_m (P := P) (kf := sV) (vf := vf) (l := m) (k := k) (v := v) (c := c) hm (key_str hu)), mSet c k v m, mClk c k m, ?_, kSet_kv, h2.set⟩
 show (W.heap.setIfInBounds b _)[b]? = _
 rw [Array.getElem?_setIfInBounds, if_pos rfl, if_pos (Array.getElem?_eq_some_iff.1 h).1]
theorem itSet_other {W : World} {b k : Nat} {o : Obj} (h : k ≠ b) : (itSet W b o).heap[k]? = W.heap[k]? := by
 show (W.heap.setIfInBounds b _)[k]? = _
 rw [Array.getElem?_setIfInBounds, if_neg (fun e => h e.symm)]
theorem itSet_size {W : World} {b : Nat} {o : Obj} : (itSet W b o).heap.size = W.heap.size := by simp [itSet]
theorem itSet_below {W W0 : World} {b n : Nat} {o : Obj} (h : Below n W0 W) (hb : n ≤ b) : Below n W0 (itSet W b o) :=
 h.trans ⟨rfl, rfl, rfl, by simp [itSet], fun k hk => itSet_other (by omega)⟩
def IterAt (W : World) (r b : Nat) (vf : V → Value) (l rest : List (Tx × V)) : Prop :=
 ∃ (m : Mp Tx V) (c since c0 : Nat) (seen : Array Nat), W.heap[b]? = some (.map (mE sV vf m).toArray c) ∧ kv m = l ∧ StOK m c ∧ W.heap[r]? = some (.mapIter (some b) since seen c0) ∧ since ≤ c0 ∧ since ≤ c ∧ (∀ s ∈ m.map (·.2.2), s < since) ∧
  rest = kv (m.filter fun e => !seen.contains e.2.2)
theorem IterAt.map {W : World} {r b : Nat} {vf : V → Value} {l rest : List (Tx × V)} (h : IterAt W r b vf l rest) : MapAt W b vf l := by
 obtain ⟨m, c, since, c0, seen, h1, h2, h3, _⟩ := h
 exact ⟨m, c, h1, h2, h3⟩
theorem IterAt.eqb {W W' : World} {r b : Nat} {vf : V → Value} {l rest : List (Tx × V)} (h : IterAt W r b vf l rest) (e1 : W'.heap[b]? = W.heap[b]?) (e2 : W'.heap[r]? = W.heap[r]?) : IterAt W' r b vf l rest := by
 obtain ⟨m, c, since, c0, seen, h1, h2, h3, h4, h5⟩ := h
 exact ⟨m, c, since, c0, seen, e1.trans h1, h2, h3, e2.trans h4, h5⟩
theorem IterAt.lt {W : World} {r b : Nat} {vf : V → Value} {l rest : List (Tx × V)} (h : IterAt W r b vf l rest) : r < W.heap.size := by
 obtain ⟨m, c, since, c0, seen, h1, h2, h3, h4, h5⟩ := h
 exact (Array.getElem?_eq_some_iff.1 h4).1
theorem IterAt.below {W W' : World} {r b n : Nat} {vf : V → Value} {l rest : List (Tx × V)} (h : IterAt W r b vf l rest) (hb : Below n W W') (h1 : r < n) (h2 : b < n) : IterAt W' r b vf l rest := h.eqb (hb.block b h2) (hb.block r h1)
theorem range_start {W : World} {b : Nat} {vf : V → Value} {l : List (Tx × V)} (h : MapAt W b vf l) {t kt et : TypeId} (hu : P.underlying t = some (.map kt et)) :
  ∃ o, (Instr.range t (.map (some b))).run P W = .ok (.pointer (some ⟨W.heap.size, 0, none⟩)) (W.alloc o) ∧ IterAt (W.alloc o) W.heap.size b vf l l := by
 obtain ⟨m, c, h, rfl, h2⟩ := h
 refine ⟨_, run_range_map W t kt et b _ c hu h, m, c, c, c, #[], ?_, rfl, h2, heap_alloc_new _ _, Nat.le_refl _, Nat.le_refl _, h2.1, ?_⟩
 ·rw [Below.heap_alloc _ _ _ (Array.getElem?_eq_some_iff.1 h).1]; exact h
 ·have : m.filter (fun e => !(#[] : Array Nat).contains e.2.2) = m := List.filter_eq_self.2 fun e _ => by simp
  rw [this]
structure Turned (r : Nat) (W W' : World) : Prop where
 os : W'.os = W.os
 tape : W'.tape = W.tape
 output : W'.output = W.output
 size : W'.heap.size = W.heap.size
 block : ∀ k, k ≠ r → W'.heap[k]? = W.heap[k]?
theorem Turned.below {r n : Nat} {W0 W W' : World} (h : Turned r W W') (h0 : Below n W0 W) (hr : n ≤ r) : Below n W0 W' :=
 h0.trans ⟨h.os, h.tape, h.output, by rw [h.size]; exact Nat.le_refl _, fun k hk => h.block k (by omega)⟩
theorem next_step {W : World} {r b : Nat} {vf : V → Value} {l rest : List (Tx × V)} (h : IterAt W r b vf l rest) (hrb : r ≠ b) (ty : TypeId) :
  (rest = [] ∧ (Instr.next (.pointer (some ⟨r, 0, none⟩)) false ty).run P W = .ok (.tuple #[.bool false]) W) ∨
  ∃ k v rest' W1, rest.Perm ((k, v) :: rest') ∧ (Instr.next (.pointer (some ⟨r, 0, none⟩)) false ty).run P W = .ok (.tuple #[.bool true, sV k, vf v]) W1 ∧ IterAt W1 r b vf l rest' ∧ Turned r W W1 ∧
   (Instr.entry (.pointer (some ⟨r, 0, none⟩))).run P W1 = .ok (.tuple #[sV k, vf v]) W1 := by
 obtain ⟨m, c, since, c0, seen, h1, rfl, h3, h4, h5, hsc, h6, rfl⟩ := h
 have hborn : ∀ x ∈ (mE sV vf m).toArray.toList, x.born < since := fun x hx => by
  have hx2 : x ∈ mE sV vf m := by simpa using hx
  unfold mE at hx2
  obtain ⟨y, hy, rfl⟩ := List.mem_map.1 hx2
  exact h6 _ (List.mem_map_of_mem hy)
 have hnb : ((mE sV vf m).toArray.toList.map (·.born)).Nodup := by
  have : (mE sV vf m).toArray.toList.map (·.born) = m.map (·.2.2) := by
   unfold mE
   simp [List.map_map, Function.comp_def]
  rw [this]; exact h3.2
 rcases run_next_at (P := P) W ty r b since c0 seen (mE sV vf m).toArray c h4 h1 hborn h5 with ⟨hl0, hrun⟩ | ⟨e, he, w2, hw2, hrun⟩
 ·refine .inl ⟨?_, hrun⟩
  have : m.filter (fun e => !seen.contains e.2.2) = [] := by
   rw [List.filter_eq_nil_iff]
   intro x hx hs
   have : (⟨sV x.1, vf x.2.1, x.2.2⟩ : MapEntry) ∈ leftOf (mE sV vf m).toArray seen := Array.mem_filter.2 ⟨List.mem_toArray.2 (List.mem_map_of_mem (f := fun e : Tx × V × Nat => (⟨sV e.1, vf e.2.1, e.2.2⟩ : MapEntry)) hx), hs⟩
   rw [Array.eq_empty_of_size_eq_zero hl0] at this
   simp at this
  rw [this]
  rfl
 ·right
  have hm1 : e ∈ (mE sV vf m).toArray.toList ∧ (!seen.contains e.born) = true := by
   have := Array.mem_filter.1 (by simpa using he : e ∈ leftOf (mE sV vf m).toArray seen)
   exact ⟨by simpa using this.1, this.2⟩
  obtain ⟨x, hx, rfl⟩ : ∃ x ∈ m, (⟨sV x.1, vf x.2.1, x.2.2⟩ : MapEntry) = e := by
   have h : e ∈ mE sV vf m := by simpa using hm1.1
   unfold mE at h
   exact List.mem_map.1 h
  obtain ⟨k, v, s⟩ := x
  have hs : (!seen.contains s) = true := hm1.2
  have hheap : w2.heap = W.heap := by rcases hw2 with rfl | rfl <;> rfl
  obtain ⟨W3, hW3⟩ : ∃ W3, ChangeMaps.setBlock w2 r (.mapIter (some b) since (seen.push s) c) = W3 := ⟨_, rfl⟩
  have hT : Turned r W W3 := by
   rw [← hW3]
   refine ⟨by rcases hw2 with rfl | rfl <;> rfl, by rcases hw2 with rfl | rfl <;> rfl, by rcases hw2 with rfl | rfl <;> rfl, by simp [ChangeMaps.setBlock, hheap], fun j hne => ?_⟩
   simp only [ChangeMaps.setBlock, hheap]
   rw [Array.getElem?_setIfInBounds, if_neg (fun e => hne e.symm)]
  have hit3 : W3.heap[r]? = some (.mapIter (some b) since (seen.push s) c) := by
   rw [← hW3]
   simp only [ChangeMaps.setBlock, hheap]
   rw [Array.getElem?_setIfInBounds, if_pos rfl, if_pos (Array.getElem?_eq_some_iff.1 h4).1]
  have hmap3 : W3.heap[b]? = some (.map (mE sV vf m).toArray c) := by rw [hT.block b (Ne.symm hrb)]; exact h1
  refine ⟨k, v, kv (m.filter fun e => !(seen.push s).contains e.2.2), W3, ?_, by rw [← hW3]; exact hrun, ⟨m, c, since, c, seen.push s, hmap3, rfl, h3, hit3, hsc, hsc, h6, rfl⟩, hT, run_entry_at (P := P) W3 r b since seen (mE sV vf m).toArray c _ hit3 hmap3 hm1.1 hnb⟩
  ·unfold kv
   have key : ∀ (l : Mp Tx V), (l.map (·.2.2)).Nodup → (k, v, s) ∈ l → ((l.filter fun e => !seen.contains e.2.2)).Perm ((k, v, s) :: l.filter fun e => !(seen.push s).contains e.2.2) := by
    intro l
    induction l with
    | nil => intro _ h; cases h
    | cons a l ih =>
     intro hn hmem
     rw [List.map_cons, List.nodup_cons] at hn
     have hpush : ∀ y, (seen.push s).contains y = (seen.contains y || y == s) := fun y => by
      rw [Bool.eq_iff_iff]
      simp [Array.contains_iff_mem, Array.mem_push]
     rcases List.mem_cons.1 hmem with e | hmem
     ·subst e
      have h7 : (l.filter fun e => !seen.contains e.2.2) = l.filter fun e => !(seen.push s).contains e.2.2 := List.filter_congr fun x hx => by
       have h8 : x.2.2 ∈ l.map (·.2.2) := List.mem_map_of_mem hx
       have : x.2.2 ≠ s := fun e => hn.1 (by rw [e] at h8; exact h8)
       rw [hpush, show (x.2.2 == s) = false from by simpa using this, Bool.or_false]
      rw [List.filter_cons, if_pos (by exact hs), List.filter_cons, if_neg (by rw [hpush]; simp), h7]
     ·have h8 : s ∈ l.map (·.2.2) := List.mem_map_of_mem (f := fun e : Tx × V × Nat => e.2.2) hmem
      have hne : a.2.2 ≠ s := fun e => hn.1 (by rw [e]; exact h8)
      have e1 : (seen.push s).contains a.2.2 = seen.contains a.2.2 := by rw [hpush, show (a.2.2 == s) = false from by simpa using hne, Bool.or_false]
      rw [List.filter_cons, List.filter_cons, e1]
      split
      ·exact ((ih hn.2 hmem).cons a).trans (List.Perm.swap _ _ _)
      ·exact ih hn.2 hmem
   have := (key m h3.2 hx).map (fun e : Tx × V × Nat => (e.1, e.2.1))
   exact this
theorem filter_set {k : Tx} {v : V} {c : Nat} {seen : Array Nat} : ∀ {m : Mp Tx V}, mHas k m = true → (∀ e ∈ m, e.1 = k → seen.contains e.2.2 = true) → (mSet c k v m).filter (fun e => !seen.contains e.2.2) = m.filter (fun e => !seen.contains e.2.2) ∧ (mSet c k v m).map (·.2.2) = m.map (·.2.2) ∧ mClk c k m = c
 | [], h, _ => by cases h
 | e :: m, h, hs => by
  unfold mSet mClk
  cases he : decide (e.1 = k) with
  | true =>
   have h1 := hs e List.mem_cons_self (of_decide_eq_true he)
   refine ⟨?_, rfl, rfl⟩
   show List.filter _ ((k, v, e.2.2) :: m) = _
   rw [List.filter_cons, List.filter_cons, if_neg (by rw [h1]; simp), if_neg (by rw [h1]; simp)]
  | false =>
   have h2 : mHas k m = true := by
    unfold mHas mGet at h
    rw [he] at h
    exact h
   obtain ⟨a, b, d⟩ := filter_set (c := c) (v := v) h2 (fun e h => hs e (List.mem_cons_of_mem _ h))
   refine ⟨?_, ?_, d⟩
   ·show List.filter _ (e :: mSet c k v m) = _
    rw [List.filter_cons, List.filter_cons, a]
   ·show e.2.2 :: (mSet c k v m).map (·.2.2) = _
    rw [b]
    rfl
theorem IterAt.upd {W : World} {r b : Nat} {vf : V → Value} {l rest : List (Tx × V)} (h : IterAt W r b vf l rest) (hrb : r ≠ b) {t kt et : TypeId} (hm : mapTy P t = some (kt, et)) (hu : P.underlying kt = some .string) (k : Tx) (v : V) (hk : (kGet k l).isSome = true) (hr : k ∉ rest.map (·.1)) :
  ∃ o, (Instr.mapUpdate t (.map (some b)) (sV k) (vf v)).run P W = .ok () (itSet W b o) ∧ IterAt (itSet W b o) r b vf (kSet k v l) rest := by
 obtain ⟨m, c, since, c0, seen, h1, rfl, h3, h4, h5, hsc, h6, rfl⟩ := h
 have hseen : ∀ e ∈ m, e.1 = k → seen.contains e.2.2 = true := fun e he hek => by
  cases hc : seen.contains e.2.2 with
  | true => rfl
  | false =>
   refine absurd ?_ hr
   rw [← hek]
   unfold kv
   rw [List.map_map]
   exact List.mem_map_of_mem (f := fun e : Tx × V × Nat => e.1) (List.mem_filter.2 ⟨he, by rw [hc]; rfl⟩)
 obtain ⟨f1, f2, f3⟩ := filter_set (c := c) (v := v) (by unfold mHas; rw [← kGet_kv]; exact hk) hseen
 refine ⟨_, aupd_run h1 (upd_m (P := P) (kf := sV) (vf := vf) (l := m) (k := k) (v := v) (c := c) hm (key_str hu)), mSet c k v m, mClk c k m, since, c0, seen, ?_, kSet_kv, h3.set, ?_, h5, by rw [f3]; exact hsc, by rw [f2]; exact h6, by rw [f1]⟩
 ·show (W.heap.setIfInBounds b _)[b]? = _
  rw [Array.getElem?_setIfInBounds, if_pos rfl, if_pos (Array.getElem?_eq_some_iff.1 h1).1]
 ·rw [itSet_other hrb]; exact h4
end
structure But (X : Nat → Prop) (n : Nat) (W W' : World) : Prop where
 os : W'.os = W.os
 tape : W'.tape = W.tape
 output : W'.output = W.output
 size : W.heap.size ≤ W'.heap.size
 block : ∀ k, k < n → ¬ X k → W'.heap[k]? = W.heap[k]?
theorem But.refl (X : Nat → Prop) (n : Nat) (W : World) : But X n W W := ⟨rfl, rfl, rfl, Nat.le_refl _, fun _ _ _ => rfl⟩
theorem But.trans {X : Nat → Prop} {n : Nat} {a b c : World} (h : But X n a b) (k : But X n b c) : But X n a c :=
 ⟨k.os.trans h.os, k.tape.trans h.tape, k.output.trans h.output, Nat.le_trans h.size k.size, fun i hi hx => (k.block i hi hx).trans (h.block i hi hx)⟩
theorem But.mono {X Y : Nat → Prop} {n m : Nat} {a b : World} (h : But X n a b) (hm : m ≤ n) (hx : ∀ k, k < m → X k → Y k) : But Y m a b := ⟨h.os, h.tape, h.output, h.size, fun i hi hy => h.block i (by omega) (fun e => hy (hx i hi e))⟩
theorem But.of {X : Nat → Prop} {n : Nat} {a b : World} (h : Below n a b) : But X n a b := ⟨h.os, h.tape, h.output, h.size, fun i hi _ => h.block i hi⟩
theorem But.below {X : Nat → Prop} {n m : Nat} {a b : World} (h : But X n a b) (hm : m ≤ n) (hx : ∀ k, k < m → ¬ X k) : Below m a b := ⟨h.os, h.tape, h.output, h.size, fun i hi => h.block i (by omega) (hx i hi)⟩
abbrev nV (n : Nat) : Value := .int .i64 n
abbrev entV (e : Ent) : Value := .agg #[sV e.word, sV e.form, sV e.see, sV e.writer, nV e.asked, nV e.came, nV e.vol]
abbrev accV (a : Acc) : Value := .agg #[sV a.who, nV a.pence, nV a.vols, .bool a.stop]
abbrev ptrV (p : Nat) : Value := .pointer (some ⟨p, 0, none⟩)
theorem row_eqb {W W' : World} {B e size n : Nat} {v : Value} {xs : List Value} (h : W.ownsRow B e size v n xs) (hb : ∀ k, v.ownBlock = some k → W'.heap[k]? = W.heap[k]?) : W'.ownsRow B e size v n xs := by
 refine ⟨h.1, h.2.imp (fun h => h) ?_⟩
 rintro ⟨g, cap, cur, rfl, h2, h3, h4⟩
 exact ⟨g, cap, cur, rfl, h2, (hb g rfl).trans h3, h4⟩
def cellTy (W : World) (b : Nat) : Option TypeId := match W.heap[b]? with
 | some (.cells _ t _) => some t
 | _ => none
theorem row_mono {W : World} {B B' e size n : Nat} {v : Value} {xs : List Value} (h : W.ownsRow B e size v n xs) (hB : B' ≤ B) : W.ownsRow B' e size v n xs := by
 refine ⟨h.1, h.2.imp (fun h => h) ?_⟩
 rintro ⟨g, cap, cur, h1, h2, h3⟩
 exact ⟨g, cap, cur, h1, Nat.le_trans hB h2, h3⟩
theorem row_ty {W : World} {B e size n : Nat} {v : Value} {xs : List Value} (h : W.ownsRow B e size v n xs) {k : Nat} (hk : v.ownBlock = some k) : cellTy W k = some e ∧ k < W.heap.size := by
 obtain ⟨h1, ⟨rfl, _⟩ | ⟨g, cap, cur, rfl, h2, h3, h4⟩⟩ := h
 ·cases hk
 ·cases hk
  exact ⟨by unfold cellTy; simp only [h3], (Array.getElem?_eq_some_iff.1 h3).1⟩
def TextsAt (W : World) (v : Value) (l : List Tx) : Prop := W.ownsRow 0 9 1 v l.length (l.map sV)
def Ofs (W : World) (t : TypeId) (X : Nat → Prop) : Prop := ∀ k, X k → cellTy W k = some t
theorem ofs_ne {W : World} {t u : TypeId} {X : Nat → Prop} (h : Ofs W t X) {k : Nat} (hk : cellTy W k = some u) (hne : t ≠ u) : ¬ X k := fun hx => hne (by have := h k hx; rw [hk] at this; exact (Option.some.inj this).symm)
def Far (W : World) (X : Nat → Prop) : Prop := ∀ k, X k → ∀ t, cellTy W k = some t → t ≠ 9 ∧ t ≠ 76 ∧ t ≠ 56
theorem Ofs.far {W : World} {X : Nat → Prop} (h : Ofs W 59 X) : Far W X := fun k hx t ht => by
 have := h k hx
 rw [ht] at this
 cases this
 decide
theorem far_map {W : World} {b : Nat} {es : Array MapEntry} {c : Nat} (h : W.heap[b]? = some (.map es c)) : Far W (· = b) := fun k hx t ht => by
 subst hx
 unfold cellTy at ht
 rw [h] at ht
 cases ht
def Far9 (W : World) (X : Nat → Prop) : Prop := ∀ k, X k → cellTy W k ≠ some 9
theorem Far.nine {W : World} {X : Nat → Prop} (h : Far W X) : Far9 W X := fun k hx e => (h k hx _ e).1 rfl
theorem TextsAt.but {W W' : World} {v : Value} {l : List Tx} {X : Nat → Prop} {n : Nat} (h : TextsAt W v l) (hb : But X n W W') (hn : W.heap.size ≤ n) (hX : Far9 W X) : TextsAt W' v l :=
 row_eqb h fun k hk => by
  obtain ⟨h1, h2⟩ := row_ty h hk
  exact hb.block k (by omega) (fun hx => hX k hx h1)
inductive VolCells (W : World) : List Vol → List Value → Prop
 | nil : VolCells W [] []
 | cons (x : Vol) (w : Value) (xs : List Vol) (cs : List Value) : TextsAt W w x.words → VolCells W xs cs → VolCells W (x :: xs) (sV x.letter :: w :: nV x.lines :: nV x.sent :: cs)
theorem VolCells.but {W W' : World} {xs : List Vol} {cs : List Value} {X : Nat → Prop} {n : Nat} (h : VolCells W xs cs) (hb : But X n W W') (hn : W.heap.size ≤ n) (hX : Far9 W X) : VolCells W' xs cs := by
 induction h with
 | nil => exact .nil
 | cons x w xs cs h1 _ ih => exact .cons x w xs cs (h1.but hb hn hX) ih
theorem VolCells.len {W : World} {xs : List Vol} {cs : List Value} (h : VolCells W xs cs) : cs.length = xs.length * 4 := by
 induction h with
 | nil => rfl
 | cons x w xs cs h1 _ ih => simp only [List.length_cons, ih]; omega
theorem VolCells.snoc {W : World} {xs : List Vol} {cs : List Value} (h : VolCells W xs cs) {x : Vol} {w : Value} (hw : TextsAt W w x.words) : VolCells W (xs ++ [x]) (cs ++ [sV x.letter, w, nV x.lines, nV x.sent]) := by
 induction h with
 | nil => exact .cons x w [] [] hw .nil
 | cons y u ys ds h1 _ ih => exact .cons y u _ _ h1 ih
def VolsAt (W : World) (B : Nat) (v : Value) (l : List Vol) : Prop := ∃ cs, VolCells W l cs ∧ W.ownsRow B 76 4 v l.length cs
theorem VolsAt.but {W W' : World} {B : Nat} {v : Value} {l : List Vol} {X : Nat → Prop} {n : Nat} (h : VolsAt W B v l) (hb : But X n W W') (hn : W.heap.size ≤ n) (hX : Far W X) : VolsAt W' B v l := by
 obtain ⟨cs, h1, h2⟩ := h
 exact ⟨cs, h1.but hb hn hX.nine, row_eqb h2 fun k hk => by
  obtain ⟨h1, h2⟩ := row_ty h2 hk
  exact hb.block k (by omega) (fun hx => (hX k hx _ h1).2.1 rfl)⟩
def entL (l : List Ent) : List (Tx × Ent) := l.map fun e => (e.word, e)
def accL (l : List Acc) : List (Tx × Acc) := l.map fun a => (a.who, a)
def DeskAt (W : World) (n p : Nat) (d : Desk) : Prop := ∃ (me ma : Nat) (vv : Value), W.heap[p]? = some (.cells #[.map (some me), .map (some ma), vv, .int .u8 d.closed.toNat] 98 (0, 0)) ∧ n ≤ p ∧ n ≤ me ∧ n ≤ ma ∧ me ≠ ma ∧
 MapAt W me entV (entL d.ents) ∧ MapAt W ma accV (accL d.accs) ∧ VolsAt W n vv d.vols
theorem DeskAt.mono {W : World} {n m p : Nat} {d : Desk} (h : DeskAt W n p d) (hm : m ≤ n) : DeskAt W m p d := by
 obtain ⟨me, ma, vv, h1, h2, h3, h4, h5, h6, h7, cs, h8, h9⟩ := h
 exact ⟨me, ma, vv, h1, by omega, by omega, by omega, h5, h6, h7, cs, h8, row_mono h9 hm⟩
theorem DeskAt.lt {W : World} {n p : Nat} {d : Desk} (h : DeskAt W n p d) : p < W.heap.size := by
 obtain ⟨me, ma, vv, h1, _⟩ := h
 exact (Array.getElem?_eq_some_iff.1 h1).1
theorem not_map {W : World} {X : Nat → Prop} (hX : Ofs W 59 X) {b : Nat} {es : Array MapEntry} {c : Nat} (h : W.heap[b]? = some (.map es c)) : ¬ X b := fun hx => by
 have := hX b hx
 unfold cellTy at this
 rw [h] at this
 cases this
theorem MapAt.but {V : Type} {W W' : World} {b : Nat} {vf : V → Value} {l : List (Tx × V)} {X : Nat → Prop} {n : Nat} (h : MapAt W b vf l) (hb : But X n W W') (hn : W.heap.size ≤ n) (hX : Ofs W 59 X) : MapAt W' b vf l := by
 have hl := h.lt
 obtain ⟨m, c, h1, h2⟩ := h
 exact ⟨m, c, (hb.block b (by omega) (not_map hX h1)).trans h1, h2⟩
theorem DeskAt.but {W W' : World} {n p : Nat} {d : Desk} {X : Nat → Prop} {k : Nat} (h : DeskAt W n p d) (hb : But X k W W') (hn : W.heap.size ≤ k) (hX : Ofs W 59 X) : DeskAt W' n p d := by
 have hl := h.lt
 obtain ⟨me, ma, vv, h1, h2, h3, h4, h5, h6, h7, h8⟩ := h
 exact ⟨me, ma, vv, (hb.block p (by omega) (ofs_ne hX (u := 98) (by unfold cellTy; simp only [h1]) (by decide))).trans h1, h2, h3, h4, h5, h6.but hb hn hX, h7.but hb hn hX, h8.but hb hn hX.far⟩
theorem DeskAt.below {W W' : World} {n p : Nat} {d : Desk} (h : DeskAt W n p d) (hb : Below W.heap.size W W') : DeskAt W' n p d := h.but (X := fun _ => False) (But.of hb) (Nat.le_refl _) (fun _ h => h.elim)
inductive Desks (W : World) : List Desk → List Value → Prop
 | nil : Desks W [] []
 | cons (p : Nat) (d : Desk) (ds : List Desk) (vs : List Value) : DeskAt W 0 p d → Desks W ds vs → Desks W (d :: ds) (ptrV p :: vs)
theorem Desks.but {W W' : World} {xs : List Desk} {cs : List Value} {X : Nat → Prop} {n : Nat} (h : Desks W xs cs) (hb : But X n W W') (hn : W.heap.size ≤ n) (hX : Ofs W 59 X) : Desks W' xs cs := by
 induction h with
 | nil => exact .nil
 | cons x w xs cs h1 _ ih => exact .cons x w xs cs (h1.but hb hn hX) ih
theorem Desks.len {W : World} {xs : List Desk} {cs : List Value} (h : Desks W xs cs) : cs.length = xs.length := by
 induction h with
 | nil => rfl
 | cons x w xs cs h1 _ ih => simp only [List.length_cons, ih]
theorem Desks.snoc {W : World} {xs : List Desk} {cs : List Value} (h : Desks W xs cs) {p : Nat} {d : Desk} (hd : DeskAt W 0 p d) : Desks W (xs ++ [d]) (cs ++ [ptrV p]) := by
 induction h with
 | nil => exact .cons p d [] [] hd .nil
 | cons y u ys ds h1 _ ih => exact .cons y u _ _ h1 ih
theorem Desks.init {W : World} {xs : List Desk} {cs : List Value} (h : Desks W xs cs) : Desks W xs.dropLast cs.dropLast := by
 induction h with
 | nil => exact .nil
 | cons y u ys ds h1 h2 ih =>
  cases h2 with
  | nil => exact .nil
  | cons z w zs es h3 h4 => exact .cons _ _ _ _ h1 ih
theorem Desks.last {W : World} {xs : List Desk} {cs : List Value} (h : Desks W xs cs) (d0 : Desk) (hne : xs ≠ []) : ∃ p, cs[xs.length - 1]? = some (ptrV p) ∧ DeskAt W 0 p (xs.getLastD d0) := by
 induction h with
 | nil => exact absurd rfl hne
 | cons y u ys ds h1 h2 ih =>
  cases h2 with
  | nil => exact ⟨y, rfl, h1⟩
  | cons z w zs es h3 h4 =>
   obtain ⟨p, e, hp⟩ := ih (by simp)
   exact ⟨p, by simpa using e, by simpa [List.getLastD] using hp⟩
def OffAt (W : World) (o : Nat) (S : Off) : Prop := ∃ (now : Nat) (pv lv : Value) (ps : List Value), W.heap[o]? = some (.cells #[ptrV now, pv, lv] 59 (0, 0)) ∧ DeskAt W 0 now S.now ∧ W.ownsRow 0 56 1 pv S.past.length ps ∧ Desks W S.past ps ∧ TextsAt W lv S.lines ∧ S.past.length = S.lines.length
theorem OffAt.lt {W : World} {o : Nat} {S : Off} (h : OffAt W o S) : o < W.heap.size := by
 obtain ⟨_, _, _, _, h1, _⟩ := h
 exact (Array.getElem?_eq_some_iff.1 h1).1
theorem OffAt.ty {W : World} {o : Nat} {S : Off} (h : OffAt W o S) : cellTy W o = some 59 := by
 obtain ⟨_, _, _, _, h1, _⟩ := h
 unfold cellTy
 simp only [h1]
theorem OffAt.but {W W' : World} {o : Nat} {S : Off} {X : Nat → Prop} {n : Nat} (h : OffAt W o S) (hb : But X n W W') (hn : W.heap.size ≤ n) (hX : Ofs W 59 X) (ho : ¬ X o) : OffAt W' o S := by
 have hl := h.lt
 obtain ⟨now, pv, lv, ps, h1, h2, h3, h4, h5, h6⟩ := h
 exact ⟨now, pv, lv, ps, (hb.block o (by omega) ho).trans h1, h2.but hb hn hX, row_eqb h3 fun k hk => by
  obtain ⟨h1, h2⟩ := row_ty h3 hk
  exact hb.block k (by omega) (ofs_ne hX h1 (by decide)), h4.but hb hn hX, h5.but hb hn hX.far.nine, h6⟩
theorem OffAt.below {W W' : World} {o : Nat} {S : Off} (h : OffAt W o S) (hb : Below W.heap.size W W') : OffAt W' o S := h.but (X := fun _ => False) (But.of hb) (Nat.le_refl _) (fun _ h => h.elim) (fun h => h)
end Go.Clerk

/-
  The rows of parts by size: what they hold.
  A list of lists of texts, each list in a row of its own.
  Conditions: none; definitions and lemmas.
-/
import Derived.Test.YtmnmfmghmenkkaaRows0
import Derived.Test.YtmnmfmghmenkkaaShelf
import Derived.Deep.OwnRows
import Derived.Lib.OwnBridge
import Derived.Sort.OwnSorted
set_option linter.unusedSimpArgs false
set_option linter.unusedVariables false
namespace Go.Proofs.Ytmnmfmghmenkkaa
set_option maxRecDepth 100000
theorem addR_at {k i : Nat} {r : Rws} {p : List UInt8} (h : i ≠ k) : addR k r p i = r i := by
 unfold addR
 split
 ·rfl
 ·simp [h]
theorem rowJ_at {x : UInt8} {k i : Nat} {r : Rws} {j : Nat} (h : i ≠ k) : rowJ x k r j i = r i := by
 unfold rowJ
 have : ∀ (l : List (List UInt8)) (q : Rws), (l.foldl (fun r p => addR k r (p ++ [x])) q) i = q i := by
  intro l
  induction l with
  | nil => intro q; rfl
  | cons p l ih => intro q; rw [List.foldl_cons, ih, addR_at h]
 exact this _ _
theorem rowJ_succ {x : UInt8} {k : Nat} {r : Rws} {j : Nat} {p : List UInt8} (h : (r (k - 1))[j]? = some p) : rowJ x k r (j + 1) = addR k (rowJ x k r j) (p ++ [x]) := by
 unfold rowJ
 rw [List.take_add_one, h, Option.toList_some, List.foldl_append]
 rfl
theorem addR_mem {k i : Nat} {r : Rws} {p q : List UInt8} : q ∈ addR k r p i ↔ q ∈ r i ∨ (i = k ∧ q = p) := by
 unfold addR
 split
 ·rename_i h
  exact ⟨.inl, fun e => e.elim id fun ⟨e1, e2⟩ => by rw [e1, e2]; exact h⟩
 ·by_cases e : i = k
  ·subst e; simp
  ·simp [e]
theorem addR_nodup {k i : Nat} {r : Rws} {p : List UInt8} (h : (r i).Nodup) : (addR k r p i).Nodup := by
 unfold addR
 split
 ·exact h
 ·rename_i h2
  by_cases e : i = k
  ·subst e
   simp only [if_true]
   rw [List.nodup_append]
   refine ⟨h, by simp, ?_⟩
   intro a ha b hb e
   rw [List.mem_singleton] at hb
   subst hb e
   exact h2 ha
  ·simp only [if_neg e]; exact h
theorem rowK_mem {x : UInt8} {k i : Nat} {r : Rws} {q : List UInt8} : q ∈ rowK x k r i ↔ q ∈ r i ∨ (i = k ∧ ∃ p ∈ r (k - 1), q = p ++ [x]) := by
 unfold rowK rowJ
 rw [List.take_length]
 have : ∀ (l : List (List UInt8)) (r' : Rws), q ∈ (l.foldl (fun r p => addR k r (p ++ [x])) r') i ↔ q ∈ r' i ∨ (i = k ∧ ∃ p ∈ l, q = p ++ [x]) := by
  intro l
  induction l with
  | nil => intro r'; simp
  | cons p l ih =>
   intro r'
   rw [List.foldl_cons, ih, addR_mem]
   constructor
   ·rintro ((h | ⟨h1, h2⟩) | ⟨h1, p', h2, h3⟩)
    ·exact .inl h
    ·exact .inr ⟨h1, p, List.mem_cons_self, h2⟩
    ·exact .inr ⟨h1, p', List.mem_cons_of_mem _ h2, h3⟩
   ·rintro (h | ⟨h1, p', h2, h3⟩)
    ·exact .inl (.inl h)
    ·rcases List.mem_cons.1 h2 with rfl | h2
     ·exact .inl (.inr ⟨h1, h3⟩)
     ·exact .inr ⟨h1, p', h2, h3⟩
 exact this _ _
theorem rowJ_nodup {x : UInt8} {k i j : Nat} {r : Rws} (h : (r i).Nodup) : (rowJ x k r j i).Nodup := by
 unfold rowJ
 have : ∀ (l : List (List UInt8)) (r' : Rws), (r' i).Nodup → ((l.foldl (fun r p => addR k r (p ++ [x])) r') i).Nodup := by
  intro l
  induction l with
  | nil => intro r' h; exact h
  | cons p l ih => intro r' h; exact ih _ (addR_nodup h)
 exact this _ _ h
theorem rowsD_mem {x : UInt8} : ∀ {d : Nat} {r : Rws} {i : Nat} {q : List UInt8}, q ∈ rowsD x r d d i ↔ q ∈ r i ∨ (1 ≤ i ∧ i ≤ d ∧ ∃ p ∈ r (i - 1), q = p ++ [x])
 | 0, r, i, q => by
  rw [rowsD]
  exact ⟨.inl, fun h => h.elim id fun ⟨a, b, _⟩ => absurd a (by omega)⟩
 | d + 1, r, i, q => by
  rw [rowsD, show d + 1 - 1 = d from rfl, rowsD_mem, rowK_mem]
  constructor
  ·rintro ((h | ⟨h1, p, h2, h3⟩) | ⟨h1, h2, p, h3, h4⟩)
   ·exact .inl h
   ·subst h1; exact .inr ⟨by omega, by omega, p, h2, h3⟩
   ·rcases rowK_mem.1 h3 with h5 | ⟨h5, _⟩
    ·exact .inr ⟨h1, by omega, p, h5, h4⟩
    ·omega
  ·rintro (h | ⟨h1, h2, p, h3, h4⟩)
   ·exact .inl (.inl h)
   ·by_cases e : i = d + 1
    ·subst e; exact .inl (.inr ⟨rfl, p, h3, h4⟩)
    ·exact .inr ⟨h1, by omega, p, rowK_mem.2 (.inl h3), h4⟩
theorem rowsD_nodup {x : UInt8} : ∀ {d m : Nat} {r : Rws} {i : Nat}, (∀ i, (r i).Nodup) → (rowsD x r d m i).Nodup
 | 0, m, r, i, h => h i
 | d + 1, m, r, i, h => by
  rw [rowsD]
  exact rowsD_nodup fun i => rowJ_nodup (h i)
theorem fold_all {n : Nat} : ∀ {l w : List UInt8} {r : Rws}, w.length + l.length ≤ n → (∀ i, (r i).Nodup) → (∀ i q, q ∈ r i ↔ q.Sublist w ∧ q.length = i) →
  (∀ i, ((l.foldl (fun r x => rowsD x r n n) r) i).Nodup) ∧ ∀ i q, q ∈ (l.foldl (fun r x => rowsD x r n n) r) i ↔ q.Sublist (w ++ l) ∧ q.length = i
 | [], w, r, hn, h1, h2 => ⟨h1, fun i q => by rw [List.append_nil]; exact h2 i q⟩
 | x :: l, w, r, hn, h1, h2 => by
  rw [List.foldl_cons, show w ++ x :: l = (w ++ [x]) ++ l by simp]
  refine fold_all (w := w ++ [x]) (by simp at hn ⊢; omega) (fun i => rowsD_nodup h1) (fun i q => ?_)
  rw [rowsD_mem]
  constructor
  ·rintro (h | ⟨a, b, p, hp, rfl⟩)
   ·obtain ⟨h3, h4⟩ := (h2 i q).1 h
    exact ⟨h3.trans (List.sublist_append_left _ _), h4⟩
   ·obtain ⟨h3, h4⟩ := (h2 _ p).1 hp
    exact ⟨List.Sublist.append h3 (List.Sublist.refl _), by simp [h4]; omega⟩
  ·rintro ⟨h, hl⟩
   obtain ⟨p1, p2, rfl, h3, h4⟩ := List.sublist_append_iff.1 h
   have h5 : p2 = [] ∨ p2 = [x] := by
    cases h4 with
    | cons _ h4 => left; simpa using h4
    | cons_cons _ h4 => right; simp at h4; rw [h4]
   rcases h5 with rfl | rfl
   ·exact .inl ((h2 i _).2 ⟨by simpa using h3, by simpa using hl⟩)
   ·refine .inr ⟨by simp at hl; omega, ?_, p1, (h2 _ p1).2 ⟨h3, by simp at hl; omega⟩, rfl⟩
    have := h.length_le
    rw [hl] at this
    simp only [List.length_append, List.length_cons, List.length_nil] at this hn
    omega
theorem allR_mem {n : Nat} {l : List UInt8} (hn : l.length ≤ n) : (∀ i, (allR n l i).Nodup) ∧ ∀ i q, q ∈ allR n l i ↔ q.Sublist l ∧ q.length = i := by
 have := fold_all (n := n) (l := l) (w := []) (r := rows0) (by simpa using hn) (fun i => by unfold rows0; split <;> simp) (fun i q => by
  unfold rows0
  split
  ·rename_i h; subst h
   simp
  ·rename_i h
   simp
   intro e; subst e; simpa using fun e => h e.symm)
 simpa [allR] using this
theorem addR_len {k i : Nat} {r : Rws} {p : List UInt8} : (addR k r p i).length ≤ (r i).length + 1 := by
 unfold addR
 split
 ·omega
 ·by_cases e : i = k
  ·subst e; simp
  ·simp [e]
theorem rowJ_len {x : UInt8} {k i : Nat} {r : Rws} {j : Nat} : (rowJ x k r j i).length ≤ (r i).length + j := by
 unfold rowJ
 have : ∀ (l : List (List UInt8)) (q : Rws), ((l.foldl (fun r p => addR k r (p ++ [x])) q) i).length ≤ (q i).length + l.length := by
  intro l
  induction l with
  | nil => intro q; simp
  | cons p l ih =>
   intro q
   rw [List.foldl_cons, List.length_cons]
   have h1 := ih (addR k q (p ++ [x]))
   have h2 := @addR_len k i q (p ++ [x])
   omega
 have h1 := this ((r (k - 1)).take j) r
 have h2 : ((r (k - 1)).take j).length ≤ j := by rw [List.length_take]; omega
 omega
theorem rowK_at {x : UInt8} {k i : Nat} {r : Rws} (h : i ≠ k) : rowK x k r i = r i := rowJ_at h
theorem rowsD_len {x : UInt8} {m : Nat} : ∀ {d : Nat} {r : Rws}, (∀ i, i ≤ d → (r i).length ≤ m) → (∀ i, (r i).length ≤ 2 * m) → ∀ i, (rowsD x r d d i).length ≤ 2 * m
 | 0, r, _, h2, i => h2 i
 | d + 1, r, h1, h2, i => by
  rw [rowsD, show d + 1 - 1 = d from rfl]
  refine rowsD_len (fun i hi => by rw [rowK_at (by omega)]; exact h1 i (by omega)) (fun i => ?_) i
  by_cases e : i = d + 1
  ·subst e
   have h3 : (rowK x (d + 1) r (d + 1)).length ≤ (r (d + 1)).length + (r d).length := rowJ_len
   have h4 := h1 (d + 1) (Nat.le_refl _)
   have h5 := h1 d (by omega)
   omega
  ·rw [rowK_at e]; exact h2 i
theorem allR_len {n : Nat} : ∀ {l : List UInt8} {r : Rws} {m : Nat}, (∀ i, (r i).length ≤ m) → ∀ i, ((l.foldl (fun r x => rowsD x r n n) r) i).length ≤ m * 2 ^ l.length
 | [], r, m, h, i => by simpa using h i
 | x :: l, r, m, h, i => by
  rw [List.foldl_cons, List.length_cons, Nat.pow_succ]
  have := allR_len (l := l) (n := n) (r := rowsD x r n n) (m := 2 * m) (fun i => rowsD_len (fun i _ => h i) (fun i => by have := h i; omega) i) i
  rw [show m * (2 ^ l.length * 2) = 2 * m * 2 ^ l.length by rw [Nat.mul_comm (2 ^ l.length) 2, ← Nat.mul_assoc, Nat.mul_comm m 2]]
  exact this
theorem allR_bound {n : Nat} {l : List UInt8} (i : Nat) : (allR n l i).length ≤ 2 ^ l.length := by
 have := allR_len (n := n) (l := l) (r := rows0) (m := 1) (fun i => by unfold rows0; split <;> simp) i
 simpa [allR] using this
end Go.Proofs.Ytmnmfmghmenkkaa
set_option linter.unusedSimpArgs false
set_option linter.unusedVariables false
namespace Go.Proofs.Ytmnmfmghmenkkaa
open Go.RowKit
set_option maxRecDepth 100000
theorem encStr_inj {a b : List UInt8} (h : encStr a = encStr b) : a = b := by
 unfold encStr at h
 injection h with h
 injection h with h
 exact List.toArray_inj h
structure RowsAt (B bo n : Nat) (V : Nat → Value) (rows : Nat → List (List UInt8)) (w : World) : Prop where
 out : w.rowIs bo 36 (n + 1) V
 row : ∀ i, i < n + 1 → w.ownsRow B 9 1 (V i) (rows i).length ((rows i).map encStr)
 emp : ∀ i, i < n + 1 → rows i = [] → V i = .slice none 0 0
 len : ∀ i, i < n + 1 → ∀ p ∈ rows i, p.length = i
variable {B bo n : Nat} {V : Nat → Value} {rows : Nat → List (List UInt8)} {w w' : World}
theorem owned_first {v : Value} {l : List (List UInt8)} {g : Nat} (h : w.ownsRow B 9 1 v l.length (l.map encStr)) (hl : l ≠ []) (hg : v.ownBlock = some g) : ∃ cur fr, w.heap[g]? = some (.cells cur 9 fr) ∧ cur.toList.head? = some (encStr (l.head hl)) := by
 rcases h.2 with ⟨e, _⟩ | ⟨g', cap, cur, rfl, _, hb, hn, _, hs, ht⟩
 ·rw [e] at hg; cases hg
 ·cases hg
  refine ⟨cur, _, hb, ?_⟩
  cases l with
  | nil => exact absurd rfl hl
  | cons p l =>
   have := congrArg List.head? ht
   rw [List.head?_take, if_neg (by simp)] at this
   rw [this]
   rfl
theorem RowsAt.apart (h : RowsAt B bo n V rows w) {i j : Nat} (hi : i < n + 1) (hj : j < n + 1) (hne : i ≠ j) {g : Nat} (e1 : (V i).ownBlock = some g) : (V j).ownBlock ≠ some g := by
 intro e2
 have hi0 : rows i ≠ [] := fun e => by rw [h.emp i hi e] at e1; cases e1
 have hj0 : rows j ≠ [] := fun e => by rw [h.emp j hj e] at e2; cases e2
 obtain ⟨c1, f1, a1, b1⟩ := owned_first (h.row i hi) hi0 e1
 obtain ⟨c2, f2, a2, b2⟩ := owned_first (h.row j hj) hj0 e2
 rw [a1] at a2
 cases a2
 rw [b1] at b2
 have e := encStr_inj (Option.some.inj b2)
 have l1 := h.len i hi _ (List.head_mem hi0)
 have l2 := h.len j hj _ (List.head_mem hj0)
 rw [e] at l1
 omega
theorem RowsAt.ne_out (h : RowsAt B bo n V rows w) {i : Nat} (hi : i < n + 1) : (V i).ownBlock ≠ some bo := by
 intro e
 have hi0 : rows i ≠ [] := fun e' => by rw [h.emp i hi e'] at e; cases e
 obtain ⟨c1, f1, a1, b1⟩ := owned_first (h.row i hi) hi0 e
 obtain ⟨c, hb, _⟩ := h.out
 rw [a1] at hb
 cases hb
theorem RowsAt.kept (h : RowsAt B bo n V rows w) {row : Option Nat} (hg : w.grownBy w' row) (h1 : row ≠ some bo) (h2 : ∀ i, i < n + 1 → (V i).ownBlock = none ∨ (V i).ownBlock ≠ row) : RowsAt B bo n V rows w' :=
 ⟨h.out.of_block (hg.block bo h.out.lt (fun e => h1 e.symm)), fun i hi => (h.row i hi).kept hg (h2 i hi), h.emp, h.len⟩
theorem RowsAt.alloc (h : RowsAt B bo n V rows w) (o : Obj) : RowsAt B bo n V rows (w.alloc o) :=
 ⟨h.out.alloc o, fun i hi => (h.row i hi).alloc o, h.emp, h.len⟩
theorem RowsAt.push (h : RowsAt B bo n V rows w) {k : Nat} (hk : k < n + 1) {p : List UInt8} (hp : p.length = k) {v' : Value} (hg : w.grownBy w' (V k).ownBlock) (hown : w'.ownsRow B 9 1 v' ((rows k).length + 1) ((rows k).map encStr ++ [encStr p])) :
  RowsAt B bo n (fun i => if i = k then v' else V i) (fun i => if i = k then rows k ++ [p] else rows i) (w'.setCell ⟨bo, k, none⟩ v') := by
 have hout : w'.rowIs bo 36 (n + 1) V := h.out.of_block (hg.block bo h.out.lt (fun e => h.ne_out hk e.symm))
 have hset : ∀ {v : Value} {l : List (List UInt8)}, l ≠ [] ∨ v = .slice none 0 0 → w'.ownsRow B 9 1 v l.length (l.map encStr) → (w'.setCell ⟨bo, k, none⟩ v').ownsRow B 9 1 v l.length (l.map encStr) := by
  intro v l hl hv
  rcases hv.2 with ⟨e, e0⟩ | ⟨g, cap, cur, rfl, hB, hb, hr⟩
  ·exact ⟨hv.1, .inl ⟨e, e0⟩⟩
  ·refine ⟨hv.1, .inr ⟨g, cap, cur, rfl, hB, ?_, hr⟩⟩
   have hne : g ≠ bo := by
    rintro rfl
    obtain ⟨c, hc, _⟩ := hout
    rw [hb] at hc
    cases hc
   rw [Below.heap_setCell _ _ _ _ hne]
   exact hb
 refine ⟨hout.set k v', fun i hi => ?_, fun i hi e => ?_, fun i hi q hq => ?_⟩
 ·by_cases e : i = k
  ·subst e
   simp only [if_true]
   exact hset (.inl (by simp)) (by simpa using hown)
  ·simp only [if_neg e]
   refine hset ?_ ((h.row i hi).kept hg ?_)
   ·by_cases e0 : rows i = []
    ·exact .inr (h.emp i hi e0)
    ·exact .inl e0
   ·cases e1 : (V i).ownBlock with
    | none => exact .inl rfl
    | some g => exact .inr (fun e2 => h.apart hi hk e e1 e2.symm)
 ·by_cases e1 : i = k
  ·subst e1; simp at e
  ·simp only [if_neg e1] at e ⊢; exact h.emp i hi e
 ·by_cases e1 : i = k
  ·subst e1
   simp only [if_true] at hq
   rcases List.mem_append.1 hq with hq | hq
   ·exact h.len i hi q hq
   ·rw [List.mem_singleton.1 hq]; exact hp
  ·simp only [if_neg e1] at hq; exact h.len i hi q hq
theorem RowsAt.ne_obj (h : RowsAt B bo n V rows w) {i : Nat} (hi : i < n + 1) {g : Nat} {o : Obj} (hm : w.heap[g]? = some o) (ho : ∀ c t fr, o ≠ .cells c t fr) : (V i).ownBlock ≠ some g := by
 intro e
 have hi0 : rows i ≠ [] := fun e' => by rw [h.emp i hi e'] at e; cases e
 obtain ⟨c1, f1, a1, b1⟩ := owned_first (h.row i hi) hi0 e
 rw [a1] at hm
 exact ho _ _ _ (Option.some.inj hm).symm
theorem RowsAt.out_obj (h : RowsAt B bo n V rows w) {g : Nat} {o : Obj} (hm : w.heap[g]? = some o) (ho : ∀ c t fr, o ≠ .cells c t fr) : g ≠ bo := by
 rintro rfl
 obtain ⟨c, hb, _⟩ := h.out
 rw [hb] at hm
 exact ho _ _ _ (Option.some.inj hm).symm
theorem RowsAt.redo (h : RowsAt B bo n V rows w) {k : Nat} (hk : k < n + 1) {ts : List (List UInt8)} (hl : ts.length = (rows k).length) (hm : ∀ p ∈ ts, p.length = k) (h0 : rows k ≠ []) (hg : w.grownBy w' (V k).ownBlock)
  (hown : w'.ownsRow B 9 1 (V k) ts.length (ts.map encStr)) : RowsAt B bo n V (fun i => if i = k then ts else rows i) w' := by
 refine ⟨h.out.of_block (hg.block bo h.out.lt (fun e => h.ne_out hk e.symm)), fun i hi => ?_, fun i hi e => ?_, fun i hi q hq => ?_⟩
 ·by_cases e : i = k
  ·subst e
   simp only [if_true]
   exact hown
  ·simp only [if_neg e]
   refine (h.row i hi).kept hg ?_
   cases e1 : (V i).ownBlock with
   | none => exact .inl rfl
   | some g => exact .inr (fun e2 => h.apart hi hk e e1 e2.symm)
 ·by_cases e1 : i = k
  ·subst e1
   simp only [if_true] at e
   rw [e] at hl
   exact absurd (List.length_eq_zero_iff.1 hl.symm) h0
  ·simp only [if_neg e1] at e; exact h.emp i hi e
 ·by_cases e1 : i = k
  ·subst e1
   simp only [if_true] at hq
   exact hm q hq
  ·simp only [if_neg e1] at hq; exact h.len i hi q hq
end Go.Proofs.Ytmnmfmghmenkkaa

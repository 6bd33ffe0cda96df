/-
  A list of lists of texts, each list in a row of its own.
  Conditions: none; definitions and lemmas.
-/
import Derived.Test.YtmnmfmghmenkkaaShelf
import Derived.Deep.OwnRows
import Derived.Lib.OwnBridge
import Derived.Sort.OwnSorted
set_option linter.unusedSimpArgs false
set_option linter.unusedVariables false
namespace Go.Proofs.Ytmnmfmghmenkkaa
open Go.RowKit
set_option maxRecDepth 100000
theorem encStr_inj {a b : List UInt8} (h : encStr a = encStr b) : a = b := by
 unfold encStr at h
 injection h with h
 injection h with h
 exact List.toArray_inj h
structure RowsAt (B bo n : Nat) (V : Nat → Value) (rows : Nat → List (List UInt8)) (w : World) : Prop where
 out : w.rowIs bo 36 (n + 1) V
 row : ∀ i, i < n + 1 → w.ownsRow B 9 1 (V i) (rows i).length ((rows i).map encStr)
 emp : ∀ i, i < n + 1 → rows i = [] → V i = .slice none 0 0
 len : ∀ i, i < n + 1 → ∀ p ∈ rows i, p.length = i
variable {B bo n : Nat} {V : Nat → Value} {rows : Nat → List (List UInt8)} {w w' : World}
theorem owned_first {v : Value} {l : List (List UInt8)} {g : Nat} (h : w.ownsRow B 9 1 v l.length (l.map encStr)) (hl : l ≠ []) (hg : v.ownBlock = some g) : ∃ cur fr, w.heap[g]? = some (.cells cur 9 fr) ∧ cur.toList.head? = some (encStr (l.head hl)) := by
 rcases h.2 with ⟨e, _⟩ | ⟨g', cap, cur, rfl, _, hb, hn, _, hs, ht⟩
 ·rw [e] at hg; cases hg
 ·cases hg
  refine ⟨cur, _, hb, ?_⟩
  cases l with
  | nil => exact absurd rfl hl
  | cons p l =>
   have := congrArg List.head? ht
   rw [List.head?_take, if_neg (by simp)] at this
   rw [this]
   rfl
theorem RowsAt.apart (h : RowsAt B bo n V rows w) {i j : Nat} (hi : i < n + 1) (hj : j < n + 1) (hne : i ≠ j) {g : Nat} (e1 : (V i).ownBlock = some g) : (V j).ownBlock ≠ some g := by
 intro e2
 have hi0 : rows i ≠ [] := fun e => by rw [h.emp i hi e] at e1; cases e1
 have hj0 : rows j ≠ [] := fun e => by rw [h.emp j hj e] at e2; cases e2
 obtain ⟨c1, f1, a1, b1⟩ := owned_first (h.row i hi) hi0 e1
 obtain ⟨c2, f2, a2, b2⟩ := owned_first (h.row j hj) hj0 e2
 rw [a1] at a2
 cases a2
 rw [b1] at b2
 have e := encStr_inj (Option.some.inj b2)
 have l1 := h.len i hi _ (List.head_mem hi0)
 have l2 := h.len j hj _ (List.head_mem hj0)
 rw [e] at l1
 omega
theorem RowsAt.ne_out (h : RowsAt B bo n V rows w) {i : Nat} (hi : i < n + 1) : (V i).ownBlock ≠ some bo := by
 intro e
 have hi0 : rows i ≠ [] := fun e' => by rw [h.emp i hi e'] at e; cases e
 obtain ⟨c1, f1, a1, b1⟩ := owned_first (h.row i hi) hi0 e
 obtain ⟨c, hb, _⟩ := h.out
 rw [a1] at hb
 cases hb
theorem RowsAt.kept (h : RowsAt B bo n V rows w) {row : Option Nat} (hg : w.grownBy w' row) (h1 : row ≠ some bo) (h2 : ∀ i, i < n + 1 → (V i).ownBlock = none ∨ (V i).ownBlock ≠ row) : RowsAt B bo n V rows w' :=
 ⟨h.out.of_block (hg.block bo h.out.lt (fun e => h1 e.symm)), fun i hi => (h.row i hi).kept hg (h2 i hi), h.emp, h.len⟩
theorem RowsAt.alloc (h : RowsAt B bo n V rows w) (o : Obj) : RowsAt B bo n V rows (w.alloc o) :=
 ⟨h.out.alloc o, fun i hi => (h.row i hi).alloc o, h.emp, h.len⟩
theorem RowsAt.push (h : RowsAt B bo n V rows w) {k : Nat} (hk : k < n + 1) {p : List UInt8} (hp : p.length = k) {v' : Value} (hg : w.grownBy w' (V k).ownBlock) (hown : w'.ownsRow B 9 1 v' ((rows k).length + 1) ((rows k).map encStr ++ [encStr p])) :
  RowsAt B bo n (fun i => if i = k then v' else V i) (fun i => if i = k then rows k ++ [p] else rows i) (w'.setCell ⟨bo, k, none⟩ v') := by
 have hout : w'.rowIs bo 36 (n + 1) V := h.out.of_block (hg.block bo h.out.lt (fun e => h.ne_out hk e.symm))
 have hset : ∀ {v : Value} {l : List (List UInt8)}, l ≠ [] ∨ v = .slice none 0 0 → w'.ownsRow B 9 1 v l.length (l.map encStr) → (w'.setCell ⟨bo, k, none⟩ v').ownsRow B 9 1 v l.length (l.map encStr) := by
  intro v l hl hv
  rcases hv.2 with ⟨e, e0⟩ | ⟨g, cap, cur, rfl, hB, hb, hr⟩
  ·exact ⟨hv.1, .inl ⟨e, e0⟩⟩
  ·refine ⟨hv.1, .inr ⟨g, cap, cur, rfl, hB, ?_, hr⟩⟩
   have hne : g ≠ bo := by
    rintro rfl
    obtain ⟨c, hc, _⟩ := hout
    rw [hb] at hc
    cases hc
   rw [Below.heap_setCell _ _ _ _ hne]
   exact hb
 refine ⟨hout.set k v', fun i hi => ?_, fun i hi e => ?_, fun i hi q hq => ?_⟩
 ·by_cases e : i = k
  ·subst e
   simp only [if_true]
   exact hset (.inl (by simp)) (by simpa using hown)
  ·simp only [if_neg e]
   refine hset ?_ ((h.row i hi).kept hg ?_)
   ·by_cases e0 : rows i = []
    ·exact .inr (h.emp i hi e0)
    ·exact .inl e0
   ·cases e1 : (V i).ownBlock with
    | none => exact .inl rfl
    | some g => exact .inr (fun e2 => h.apart hi hk e e1 e2.symm)
 ·by_cases e1 : i = k
  ·subst e1; simp at e
  ·simp only [if_neg e1] at e ⊢; exact h.emp i hi e
 ·by_cases e1 : i = k
  ·subst e1
   simp only [if_true] at hq
   rcases List.mem_append.1 hq with hq | hq
   ·exact h.len i hi q hq
   ·rw [List.mem_singleton.1 hq]; exact hp
  ·simp only [if_neg e1] at hq; exact h.len i hi q hq
theorem RowsAt.ne_obj (h : RowsAt B bo n V rows w) {i : Nat} (hi : i < n + 1) {g : Nat} {o : Obj} (hm : w.heap[g]? = some o) (ho : ∀ c t fr, o ≠ .cells c t fr) : (V i).ownBlock ≠ some g := by
 intro e
 have hi0 : rows i ≠ [] := fun e' => by rw [h.emp i hi e'] at e; cases e
 obtain ⟨c1, f1, a1, b1⟩ := owned_first (h.row i hi) hi0 e
 rw [a1] at hm
 exact ho _ _ _ (Option.some.inj hm).symm
theorem RowsAt.out_obj (h : RowsAt B bo n V rows w) {g : Nat} {o : Obj} (hm : w.heap[g]? = some o) (ho : ∀ c t fr, o ≠ .cells c t fr) : g ≠ bo := by
 rintro rfl
 obtain ⟨c, hb, _⟩ := h.out
 rw [hb] at hm
 exact ho _ _ _ (Option.some.inj hm).symm
theorem RowsAt.redo (h : RowsAt B bo n V rows w) {k : Nat} (hk : k < n + 1) {ts : List (List UInt8)} (hl : ts.length = (rows k).length) (hm : ∀ p ∈ ts, p.length = k) (h0 : rows k ≠ []) (hg : w.grownBy w' (V k).ownBlock)
  (hown : w'.ownsRow B 9 1 (V k) ts.length (ts.map encStr)) : RowsAt B bo n V (fun i => if i = k then ts else rows i) w' := by
 refine ⟨h.out.of_block (hg.block bo h.out.lt (fun e => h.ne_out hk e.symm)), fun i hi => ?_, fun i hi e => ?_, fun i hi q hq => ?_⟩
 ·by_cases e : i = k
  ·subst e
   simp only [if_true]
   exact hown
  ·simp only [if_neg e]
   refine (h.row i hi).kept hg ?_
   cases e1 : (V i).ownBlock with
   | none => exact .inl rfl
   | some g => exact .inr (fun e2 => h.apart hi hk e e1 e2.symm)
 ·by_cases e1 : i = k
  ·subst e1
   simp only [if_true] at e
   rw [e] at hl
   exact absurd (List.length_eq_zero_iff.1 hl.symm) h0
  ·simp only [if_neg e1] at e; exact h.emp i hi e
 ·by_cases e1 : i = k
  ·subst e1
   simp only [if_true] at hq
   exact hm q hq
  ·simp only [if_neg e1] at hq; exact h.len i hi q hq
end Go.Proofs.Ytmnmfmghmenkkaa

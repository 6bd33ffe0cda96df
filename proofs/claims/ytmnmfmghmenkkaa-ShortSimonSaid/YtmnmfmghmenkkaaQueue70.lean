/-
  A queue of pairs with a text each, in a row that is appended to and shortened in front.
  Conditions: none; lemmas.
-/
import Derived.Test.YtmnmfmghmenkkaaRows0
import Derived.Test.YtmnmfmghmenkkaaPurBase
import Derived.Deep.AppendSrc
import Derived.Deep.OwnRows
import Derived.Deep.MidRow
import Derived.Maps.AppendAt
import Derived.WalkKit
import Derived.Handy
set_option linter.unusedSimpArgs false
set_option linter.unusedVariables false
namespace Go.Proofs.Ytmnmfmghmenkkaa
open Go.RowKit Go.Abs Go.Pur
set_option maxRecDepth 100000
def qc (e : Way) : List Value := [.int .i64 (e.1 : Int), .int .i64 (e.2.1 : Int), .string ⟨e.2.2.toArray⟩]
def qcs (Q : List Way) : List Value := Q.flatMap qc
theorem qcs_len : ∀ {Q : List Way}, (qcs Q).length = Q.length * 3
 | [] => rfl
 | e :: Q => by
  unfold qcs at *
  rw [List.flatMap_cons, List.length_append, List.length_cons, show (Q.flatMap qc).length = Q.length * 3 from qcs_len (Q := Q), Nat.succ_mul]
  simp [qc]; omega
theorem qcs_one {Q : List Way} : ∀ u ∈ qcs Q, u.oneCell' = true := fun u hu => by
 obtain ⟨e, _, h⟩ := List.mem_flatMap.1 hu
 simp only [qc, List.mem_cons, List.not_mem_nil, or_false] at h
 rcases h with rfl | rfl | rfl <;> rfl
def QAt (B : Nat) (v : Value) (Q : List Way) (w : World) : Prop :=
 ∃ g off cap C, v = .slice (some ⟨g, off, none⟩) Q.length cap ∧ B ≤ g ∧ w.heap[g]? = some (.cells C 108 (0, 0)) ∧ Q.length ≤ cap ∧ off + cap * 3 ≤ C.size ∧ w.rangeAt g off (qcs Q)
theorem range_kept {w w' : World} {g off : Nat} {cs : List Value} (h : w.rangeAt g off cs) (e : w'.heap[g]? = w.heap[g]?) : w'.rangeAt g off cs := fun j v hv => by
 rw [World.cell?_of_block (w := w) e]; exact h j v hv
theorem QAt.kept {B : Nat} {v : Value} {Q : List Way} {w w' : World} {row : Option Nat} (h : QAt B v Q w) (hg : w.grownBy w' row) (hr : v.ownBlock ≠ row) : QAt B v Q w' := by
 obtain ⟨g, off, cap, C, rfl, h1, h2, h3, h4, h5⟩ := h
 have e := hg.block g (Array.getElem?_eq_some_iff.1 h2).1 (fun e => hr (by rw [← e]; rfl))
 exact ⟨g, off, cap, C, rfl, h1, e.trans h2, h3, h4, range_kept h5 e⟩
theorem QAt.ne {B : Nat} {v : Value} {Q : List Way} {w : World} (h : QAt B v Q w) {g : Nat} {o : Obj} (hm : w.heap[g]? = some o) (ho : ∀ c t fr, o ≠ .cells c t fr) : v.ownBlock ≠ some g := by
 obtain ⟨g', off, cap, C, rfl, h1, h2, _⟩ := h
 intro e
 cases e
 rw [h2] at hm
 exact ho _ _ _ (Option.some.inj hm).symm
theorem QAt.pop {B : Nat} {g off n cap : Nat} {e : Way} {Q : List Way} {w : World} (h : QAt B (.slice (some ⟨g, off, none⟩) n cap) (e :: Q) w) : QAt B (.slice (some ⟨g, off + 3, none⟩) (n - 1) (cap - 1)) Q w := by
 obtain ⟨g', off', cap', C, e1, h1, h2, h3, h4, h5⟩ := h
 injection e1 with e1 e2 e3
 injection e1 with e1
 injection e1 with e1 e4 _
 subst e1; subst e4; subst e2; subst e3
 rw [List.length_cons] at h3
 refine ⟨g, off + 3, cap - 1, C, by rw [List.length_cons]; rfl, h1, h2, by omega, by omega, fun k u hk => ?_⟩
 have := h5 (k + 3) u (by
  unfold qcs at hk ⊢
  rw [List.flatMap_cons, List.getElem?_append_right (by simp [qc])]
  simpa [qc] using hk)
 rwa [show off + 3 + k = off + (k + 3) by omega]
theorem setCells_heap {g : Nat} : ∀ {vs : List Value} {o : Nat} {w : World} {C : Array Value} {t : TypeId} {fr : Nat × Nat}, w.heap[g]? = some (.cells C t fr) → ∃ C', (w.setCells g o vs).heap[g]? = some (.cells C' t fr) ∧ C'.size = C.size
 | [], o, w, C, t, fr, h => ⟨C, h, rfl⟩
 | v :: vs, o, w, C, t, fr, h => by
  have h1 : (w.setCell ⟨g, o, none⟩ v).heap[g]? = some (.cells (C.setIfInBounds o v) t fr) := by
   simp [World.setCell, Array.getElem?_modify, h]
  obtain ⟨C', h2, h3⟩ := setCells_heap (vs := vs) (o := o + 1) h1
  exact ⟨C', h2, by simpa using h3⟩
theorem setCells_grown {g : Nat} : ∀ {vs : List Value} {o : Nat} {w : World}, w.grownBy (w.setCells g o vs) (some g)
 | [], o, w => ⟨rfl, rfl, rfl, Nat.le_refl _, fun _ _ _ => rfl⟩
 | v :: vs, o, w => by
  have h := setCells_grown (g := g) (vs := vs) (o := o + 1) (w := w.setCell ⟨g, o, none⟩ v)
  have hs : (w.setCell ⟨g, o, none⟩ v).heap.size = w.heap.size := by simp [World.setCell]
  refine ⟨h.os, h.tape, h.output, by rw [← hs]; exact h.size, fun k hk hne => ?_⟩
  rw [show (w.setCells g o (v :: vs)).heap[k]? = ((w.setCell ⟨g, o, none⟩ v).setCells g (o + 1) vs).heap[k]? from rfl, h.block k (by rw [hs]; exact hk) hne]
  exact Deep.blk_setCell_other _ _ _ _ (fun e => hne (by rw [e]))
theorem wpList_append_eq {P : Program} {w : World} {ops : Array Oper} {rest : List Oper} {o : Oper} {a : Act} {Q : Exit → Act → World → Prop} (hgd : o.guard = none) (s x : Operand) (t : TypeId)
  (ho : o.op = .call { callee := .builtin .append, args := #[s, x], argTypes := #[t, t] }) (v vx v' : Value) (w' : World) (hs : a.eval s = v) (hx : a.eval x = vx)
  (hr : (Builtin.append_ #[t, t] o.type #[v, vx]).run P w = .ok v' w') (h : wpList P ops Q rest (a.put o.dst v') w') : wpList P ops Q (o :: rest) a w := by
 refine wpList_plain hgd fun K hK => ?_
 unfold Oper.wp execOp
 simp only [ho, resolve, invoke, builtin, Sem.run_bind, Sem.run_pure, Result.andThen_ok, List.map_toArray, List.map_cons, List.map_nil, hs, hx, hr]
 exact hK _ _ h
theorem append_q {B g off n cap gn : Nat} {Q : List Way} {e : Way} {w : World} (ty : TypeId) (h : QAt B (.slice (some ⟨g, off, none⟩) n cap) Q w) (hB : B ≤ w.heap.size) (hn : Q.length ≤ 1000)
  (hnew : ∀ j u, (qc e)[j]? = some u → w.cell? ((⟨gn, 0, none⟩ : Addr).add j) = some u) :
  ∃ g' off' n' cap' w', (Builtin.append_ #[109, 109] ty #[.slice (some ⟨g, off, none⟩) n cap, .slice (some ⟨gn, 0, none⟩) 1 1]).run Try.prog w = .ok (.slice (some ⟨g', off', none⟩) n' cap') w' ∧ QAt B (.slice (some ⟨g', off', none⟩) n' cap') (Q ++ [e]) w' ∧ w.grownBy w' (some g) ∧ (g' = g ∨ w.heap.size ≤ g') := by
 obtain ⟨i0, hi0, hz0, hs0, hb0⟩ := info_parts (show (Try.prog.info? 108).map (fun i => (i.zero, i.size, i.bytes)) = some (some (.agg #[.int .i64 0, .int .i64 0, .string ⟨#[]⟩]), 3, 32) by kernel_rfl)
 obtain ⟨g', off', cap', C, e1, h1, h2, h3, h4, h5⟩ := h
 injection e1 with e1 e2 e3
 injection e1 with e1
 injection e1 with e1 e4 _
 subst e1; subst e4; subst e2; subst e3
 have hsrc : Src Try.prog i0.size 109 (.slice (some ⟨gn, 0, none⟩) 1 1) 1 (qc e) w := Src.ofSlice w Try.underlying109 ⟨gn, 0, none⟩ 1 1 (qc e) (by rw [hs0]; rfl) hnew (fun u hu => qcs_one (Q := [e]) u (by simpa [qcs] using hu))
 have hqe : (qc e).length = 3 := rfl
 have hql := @qcs_len Q
 have happ : qcs (Q ++ [e]) = qcs Q ++ qc e := by unfold qcs; rw [List.flatMap_append]; simp
 by_cases hroom : Q.length + 1 ≤ cap
 ·have hth : w.there g (off + Q.length * 3) (qc e).length := fun j hj => by
   rw [hqe] at hj
   refine ⟨?_, by simp [World.frozen?, h2]⟩
   have : off + Q.length * 3 + j < C.size := by omega
   simp [World.cell?, h2, this]
  have hr := run_append_room_src w 109 109 ty 108 i0 Try.underlying109 hi0 g off Q.length cap _ 1 (qc e) hsrc hroom (fun j hj => by rw [hs0]; exact (hth j hj).1) (fun j hj => by rw [hs0]; exact (hth j hj).2)
  rw [hs0] at hr
  obtain ⟨C', c1, c2⟩ := setCells_heap (g := g) (vs := qc e) (o := off + Q.length * 3) h2
  refine ⟨_, _, _, _, _, hr, ⟨g, off, cap, C', by rw [List.length_append]; rfl, h1, c1, by rw [List.length_append]; exact hroom, by rw [c2]; exact h4, ?_⟩, setCells_grown, .inl rfl⟩
  rw [happ]
  intro j u hj
  rcases Nat.lt_or_ge j (qcs Q).length with hlt | hge
  ·rw [List.getElem?_append_left hlt] at hj
   exact World.rangeAt_setCells_apart h5 g _ _ (.inr (.inl (by omega))) j u hj
  ·rw [List.getElem?_append_right hge] at hj
   have := World.rangeAt_setCells_same w g (off + Q.length * 3) (qc e) hth _ u hj
   rwa [show off + Q.length * 3 + (j - (qcs Q).length) = off + j by omega] at this
 ·have hold : (Builtin.firstCells i0.size Q.length (.slice (some ⟨g, off, none⟩) Q.length cap)).run Try.prog w.drew = .ok (qcs Q).toArray w.drew :=
   run_firstCells_some w.drew i0.size Q.length ⟨g, off, none⟩ Q.length cap (qcs Q) (by rw [hs0]; exact hql) (fun j u hj => by rw [Addr.add_lit]; exact h5 j u hj)
  have hr := run_append_grow_src (P := Try.prog) w 109 109 ty 108 i0 (.agg #[.int .i64 0, .int .i64 0, .string ⟨#[]⟩]) Try.underlying109 hi0 hz0 (some ⟨g, off, none⟩) Q.length cap (qcs Q) hold _ 1 (qc e) hsrc (by omega) (by omega) (growslice_fits (by omega) (by rw [hb0]; omega))
  have hcapge := grownCap_ge w (Q.length + 1) cap 108
  refine ⟨_, _, _, _, _, hr, ⟨w.heap.size, 0, _, _, by rw [List.length_append]; rfl, hB, heap_alloc_new _ _, by rw [List.length_append]; exact hcapge, ?_, ?_⟩, ⟨rfl, rfl, rfl, by simp, fun k hk hne => heap_alloc_old _ _ hk⟩, .inr (Nat.le_refl _)⟩
  ·have hz3 : (Value.agg #[.int .i64 0, .int .i64 0, .string ⟨#[]⟩]).cells.size = 3 := rfl
   simp only [Builtin.zeroCells, Array.size_append, List.size_toArray, List.length_append, Array.size_map, Array.size_range, hql, hqe, hz3]
   omega
  ·rw [happ]
   intro j u hj
   have hlt : j < (qcs Q ++ qc e).length := (List.getElem?_eq_some_iff.1 hj).1
   have hc : (w.drew.alloc (.cells ((qcs Q ++ qc e).toArray ++ Builtin.zeroCells (Value.agg #[.int .i64 0, .int .i64 0, .string ⟨#[]⟩]).cells (grownCap w (Q.length + 1) cap 108 - (Q.length + 1))) 108)).heap[w.heap.size]? = _ := heap_alloc_new w.drew _
   simp only [World.cell?, hc, Nat.zero_add]
   simp only [Option.isSome_none, Bool.false_eq_true, if_false]
   rw [Array.getElem?_append_left (by simpa using hlt)]
   simpa using hj
end Go.Proofs.Ytmnmfmghmenkkaa

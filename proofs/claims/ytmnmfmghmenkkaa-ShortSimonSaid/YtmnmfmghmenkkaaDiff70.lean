/-
  differ: the first of the shortest texts that one of two words has as a part, and the other one has not: a search over pairs of places.
  Conditions: none; lemmas.
-/
import Derived.Test.YtmnmfmghmenkkaaQueue70
import Derived.Test.YtmnmfmghmenkkaaPair106
import Derived.Test.YtmnmfmghmenkkaaAll61
import Derived.Test.YtmnmfmghmenkkaaNext81
import Derived.Test.YtmnmfmghmenkkaaMathP
import Derived.Test.YtmnmfmghmenkkaaPurL
import Derived.Deep.RegionHeld3
import Derived.Deep.DeepCutAuto
set_option linter.unusedSimpArgs false
set_option linter.unusedVariables false
namespace Go.Proofs.Ytmnmfmghmenkkaa
open Go.RowKit Go.Abs Go.Pur
set_option maxRecDepth 1000000
set_option maxHeartbeats 8000000
theorem cell_al {w : World} {p : Addr} {v : Value} {o : Obj} (h : w.cell? p = some v) : (w.alloc o).cell? p = some v := by
 have hl : p.block < w.heap.size := by
  rcases Nat.lt_or_ge p.block w.heap.size with h1 | h1
  ·exact h1
  ·simp [World.cell?, Array.getElem?_eq_none h1] at h
 rw [World.cell?_of_block (w := w) (heap_alloc_old w o hl)]
 exact h
theorem hid70 {p : Prop} (h : p) : Hid p := h
def S70 (B : Nat) (a b : List UInt8) (v : Value) (met : List (Nat × Nat)) (Q : List Way) (w0 w : World) : Prop :=
 ∃ (m : Mp (Int × Int) Bool) (c : Nat), QAt B v Q w ∧ w.heap[B + 1]? = some (.map (mE pV2 Value.bool m).toArray c) ∧ (∀ x y : Nat, mGetD false ((x : Int), (y : Int)) m = decide ((x, y) ∈ met)) ∧ Below B w0 w ∧
  met.Nodup ∧ (∀ p ∈ met, p.1 ≤ 10 ∧ p.2 ≤ 10) ∧ (∀ e ∈ Q, e.1 ≤ a.length ∧ e.2.1 ≤ b.length) ∧ Q.length ≤ met.length ∧ met.length ≤ 121
def Post70 (a b : List UInt8) (most : Int) (w : World) (e : Ending) (w' : World) : Prop :=
 ∃ R, bfs a b most 200 [(0, 0)] [(0, 0, [])] = R ∧ e = .returned (.tuple #[.string ⟨(R.getD []).toArray⟩, .bool R.isSome]) ∧ Below w.heap.size w w'
theorem al_cells {W w' : World} {x y v : Value} (gw : Nat) (h : Below (W.alloc (.cells #[x, y] 106)).heap.size (W.alloc (.cells #[x, y] 106)) w') (c0 : W.cell? ⟨gw, 0, none⟩ = some v) : w'.heap[W.heap.size]? = some (.cells #[x, y] 106) ∧ w'.cell? ⟨W.heap.size, 0, none⟩ = some x ∧ w'.cell? ⟨W.heap.size, 1, none⟩ = some y ∧ w'.frozen? ⟨W.heap.size, 0, none⟩ = false ∧ w'.frozen? ⟨W.heap.size, 1, none⟩ = false ∧ W.heap.size ≠ gw := by
 have e : w'.heap[W.heap.size]? = some (.cells #[x, y] 106) := (h.block _ (by simp)).trans (heap_alloc_new _ _)
 have e2 : W.heap.size ≠ gw := fun e => by
  subst e
  simp [World.cell?] at c0
 refine ⟨e, ?_, ?_, ?_, ?_, e2⟩ <;> simp [World.cell?, World.frozen?, e]
theorem al_cellsD {W w' : World} {x y v : Value} (gw : Nat) (h : Below (W.alloc (.cells #[x, y] 106)).drew.heap.size (W.alloc (.cells #[x, y] 106)).drew w') (c0 : W.cell? ⟨gw, 0, none⟩ = some v) : w'.heap[W.heap.size]? = some (.cells #[x, y] 106) ∧ w'.cell? ⟨W.heap.size, 0, none⟩ = some x ∧ w'.cell? ⟨W.heap.size, 1, none⟩ = some y ∧ w'.frozen? ⟨W.heap.size, 0, none⟩ = false ∧ w'.frozen? ⟨W.heap.size, 1, none⟩ = false ∧ W.heap.size ≠ gw :=
 al_cells gw ⟨h.os, h.tape, h.output, h.size, h.block⟩ c0
theorem set_far {w : World} {gp gw k k1 k2 : Nat} {x y v : Value} (h : gp ≠ gw) (c : w.cell? ⟨gw, k, none⟩ = some v) : ((w.setCell ⟨gp, k1, none⟩ x).setCell ⟨gp, k2, none⟩ y).cell? ⟨gw, k, none⟩ = some v := by
 rw [World.cell?_of_block (w := w), c]
 rw [Below.heap_setCell _ _ _ _ (fun e => h e.symm), Below.heap_setCell _ _ _ _ (fun e => h e.symm)]
theorem al_keep {W w' : World} {x y : Value} {g : Nat} (h : Below W.heap.size W w') (e0 : W.heap[g]? = some (.cells #[x, y] 106)) : w'.heap[g]? = some (.cells #[x, y] 106) ∧ w'.cell? ⟨g, 0, none⟩ = some x ∧ w'.cell? ⟨g, 1, none⟩ = some y ∧ w'.frozen? ⟨g, 0, none⟩ = false ∧ w'.frozen? ⟨g, 1, none⟩ = false := by
 have e : w'.heap[g]? = some (.cells #[x, y] 106) := (h.block _ (Array.getElem?_eq_some_iff.1 e0).1).trans e0
 refine ⟨e, ?_, ?_, ?_, ?_⟩ <;> simp [World.cell?, World.frozen?, e]
theorem two_set {w : World} {g : Nat} {x y X Y : Value} (e : w.heap[g]? = some (.cells #[x, y] 106)) : ((w.setCell ⟨g, 0, none⟩ X).setCell ⟨g, 1, none⟩ Y).heap[g]? = some (.cells #[X, Y] 106) := by
 simp [World.setCell, Array.getElem?_modify, e]
theorem set_below {w w' : World} {B g : Nat} {X Y : Value} (h : Below B w w') (hg : B ≤ g) : Below B w ((w'.setCell ⟨g, 0, none⟩ X).setCell ⟨g, 1, none⟩ Y) := (h.setCell (p := ⟨g, 0, none⟩) hg X).setCell (p := ⟨g, 1, none⟩) hg Y
theorem grown_of {w w' : World} (h : Below w.heap.size w w') : w.grownBy w' none := ⟨h.os, h.tape, h.output, h.size, fun k hk _ => h.block k hk⟩
theorem undrew {w w' : World} (h : Below w.drew.heap.size w.drew w') : Below w.heap.size w w' := ⟨h.os, h.tape, h.output, h.size, h.block⟩
theorem unal {w w' : World} {o : Obj} (h : Below (w.alloc o).heap.size (w.alloc o) w') : Below w.heap.size w w' := ((Below.refl _ _).alloc (Nat.le_refl _) o).trans (h.mono (by simp))
theorem out1 {wr wa wb : World} {X Y : Value} (h1 : Below wr.drew.heap.size wr.drew wa) (h2 : Below wa.heap.size wa wb) : wr.heap.size ≤ wb.heap.size ∧ wr.grownBy (wb.alloc (.cells #[X, Y] 106)) none ∧ (wb.alloc (.cells #[X, Y] 106)).heap[wb.heap.size]? = some (.cells #[X, Y] 106) := by
 have h := (undrew h1).trans (h2.mono (undrew h1).size)
 exact ⟨h.size, grown_of (h.alloc h.size _), heap_alloc_new _ _⟩
theorem out2 {wr wa wb : World} {x y X Y : Value} (h1 : Below wr.drew.heap.size wr.drew wa) (h2 : Below (wa.alloc (.cells #[x, y] 106)).heap.size (wa.alloc (.cells #[x, y] 106)) wb) : wr.heap.size ≤ wa.heap.size ∧ wr.grownBy ((wb.setCell ⟨wa.heap.size, 0, none⟩ X).setCell ⟨wa.heap.size, 1, none⟩ Y) none ∧ ((wb.setCell ⟨wa.heap.size, 0, none⟩ X).setCell ⟨wa.heap.size, 1, none⟩ Y).heap[wa.heap.size]? = some (.cells #[X, Y] 106) := by
 have h := (undrew h1).trans ((unal h2).mono (undrew h1).size)
 exact ⟨(undrew h1).size, grown_of (set_below h (undrew h1).size), two_set ((h2.block _ (by simp)).trans (heap_alloc_new _ _))⟩
theorem out3 {wr wa wb : World} {x y X Y : Value} (h1 : Below (wr.alloc (.cells #[x, y] 106)).drew.heap.size (wr.alloc (.cells #[x, y] 106)).drew wa) (h2 : Below wa.heap.size wa wb) : wr.heap.size ≤ wr.heap.size ∧ wr.grownBy ((wb.setCell ⟨wr.heap.size, 0, none⟩ X).setCell ⟨wr.heap.size, 1, none⟩ Y) none ∧ ((wb.setCell ⟨wr.heap.size, 0, none⟩ X).setCell ⟨wr.heap.size, 1, none⟩ Y).heap[wr.heap.size]? = some (.cells #[X, Y] 106) := by
 have h3 := undrew h1
 have hs := h3.size
 have h4 := (unal h3).trans (h2.mono (by simp at hs; omega))
 refine ⟨Nat.le_refl _, grown_of (set_below h4 (Nat.le_refl _)), two_set (x := x) (y := y) ?_⟩
 rw [h2.block _ (by simp at hs; omega), h3.block _ (by simp), heap_alloc_new]
theorem S70.kept {B : Nat} {a b : List UInt8} {v : Value} {met : List (Nat × Nat)} {Q : List Way} {w0 w w' : World} (h : S70 B a b v met Q w0 w) (hB : B ≤ w.heap.size) (hg : w.grownBy w' none) : S70 B a b v met Q w0 w' := by
 obtain ⟨m, c, q1, q2, q3, q4, q5⟩ := h
 refine ⟨m, c, q1.kept hg (fun e => ?_), ?_, q3, q4.grown hg hB (fun k hk => by cases hk), q5⟩
 ·obtain ⟨g, off, cap, C, e1, _⟩ := q1
  rw [e1] at e
  cases e
 ·rw [hg.block _ (Array.getElem?_eq_some_iff.1 q2).1 (by simp)]
  exact q2
theorem mGetD_pair {c : Nat} {k k' : Int × Int} {l : Mp (Int × Int) Bool} : mGetD false k (mSet c k' true l) = if k' = k then true else mGetD false k l := by
 unfold mGetD
 rw [mGet_set61]
 split <;> rfl
theorem pairs_len {l : List (Nat × Nat)} (hn : l.Nodup) (h : ∀ p ∈ l, p.1 ≤ 10 ∧ p.2 ≤ 10) : l.length ≤ 121 :=
 nodup_le (m := (List.range 11).flatMap fun i => (List.range 11).map fun j => (i, j)) hn fun p hp => by
  have := h p hp
  exact List.mem_flatMap.2 ⟨p.1, List.mem_range.2 (by omega), List.mem_map.2 ⟨p.2, List.mem_range.2 (by omega), rfl⟩⟩
theorem nx_le {w : List UInt8} {i k : Nat} {c : UInt8} (h : nxN w i c = some k) : k ≤ w.length := by
 unfold nxN at h
 cases hb : bhd (w.drop i) c with
 | none => rw [hb] at h; cases h
 | some w' => rw [hb] at h; cases h; exact Nat.sub_le _ _
theorem drop_at {l : List UInt8} {t : Nat} {x : UInt8} (h : l[t]? = some x) : l.drop t = x :: l.drop (t + 1) := by
 obtain ⟨h1, h2⟩ := List.getElem?_eq_some_iff.1 h
 rw [List.drop_eq_getElem_cons h1, h2]
theorem stL_none {a b : List UInt8} {i j t : Nat} {part l : List UInt8} {x : UInt8} {m : List (Nat × Nat)} {q : List Way} (hx : l[t]? = some x) (ha : nxN a i x = none) (hb : nxN b j x = none) : stL a b i j part (l.drop t) m q = stL a b i j part (l.drop (t + 1)) m q := by
 rw [drop_at hx, stL, ha, hb]
theorem stL_met {a b : List UInt8} {i j t p' q' : Nat} {part l : List UInt8} {x : UInt8} {m : List (Nat × Nat)} {q : List Way} (hx : l[t]? = some x) (ha : nxN a i x = some p') (hb : nxN b j x = some q') (hm : (p', q') ∈ m) : stL a b i j part (l.drop t) m q = stL a b i j part (l.drop (t + 1)) m q := by
 rw [drop_at hx, stL, ha, hb]
 exact if_pos hm
theorem stL_new {a b : List UInt8} {i j t p' q' : Nat} {part l : List UInt8} {x : UInt8} {m : List (Nat × Nat)} {q : List Way} (hx : l[t]? = some x) (ha : nxN a i x = some p') (hb : nxN b j x = some q') (hm : (p', q') ∉ m) : stL a b i j part (l.drop t) m q = stL a b i j part (l.drop (t + 1)) ((p', q') :: m) (q ++ [(p', q', part ++ [x])]) := by
 rw [drop_at hx, stL, ha, hb]
 exact if_neg hm
theorem stL_out1 {a b : List UInt8} {i j t q' : Nat} {part l : List UInt8} {x : UInt8} {m : List (Nat × Nat)} {q : List Way} (hx : l[t]? = some x) (ha : nxN a i x = none) (hb : nxN b j x = some q') : stL a b i j part (l.drop t) m q = (some (part ++ [x]), m, q) := by
 rw [drop_at hx, stL, ha, hb]
theorem stL_out2 {a b : List UInt8} {i j t p' : Nat} {part l : List UInt8} {x : UInt8} {m : List (Nat × Nat)} {q : List Way} (hx : l[t]? = some x) (ha : nxN a i x = some p') (hb : nxN b j x = none) : stL a b i j part (l.drop t) m q = (some (part ++ [x]), m, q) := by
 rw [drop_at hx, stL, ha, hb]
theorem push70 {B p q gp : Nat} {a b s : List UInt8} {v : Value} {met : List (Nat × Nat)} {Q : List Way} {w0 w : World} (h : S70 B a b v met Q w0 w) (hB : B + 1 < w.heap.size) (ha : a.length ≤ 10) (hb : b.length ≤ 10) (hnm : (p, q) ∉ met) (hp : p ≤ a.length) (hq : q ≤ b.length)
  (hgp : w.heap[gp]? = some (.cells #[.int .i64 (p : Int), .int .i64 (q : Int)] 106)) (mty : mapTy Try.prog 110 = some (106, 4)) :
  ∃ gq offq capq wd g' off' n' cap' w4, v = .slice (some ⟨gq, offq, none⟩) Q.length capq ∧ (Instr.mapUpdate 110 (.map (some (B + 1))) (.agg #[.int .i64 (p : Int), .int .i64 (q : Int)]) (.bool true)).run Try.prog w = .ok () wd ∧
   wd.cell? ⟨gp, 0, none⟩ = some (.int .i64 (p : Int)) ∧ wd.cell? ⟨gp, 1, none⟩ = some (.int .i64 (q : Int)) ∧
   (Builtin.append_ #[109, 109] 109 #[.slice (some ⟨gq, offq, none⟩) Q.length capq, .slice (some ⟨wd.heap.size, 0, none⟩) 1 1]).run Try.prog (wd.alloc (.cells #[.int .i64 (p : Int), .int .i64 (q : Int), .string ⟨s.toArray⟩] 108)) = .ok (.slice (some ⟨g', off', none⟩) n' cap') w4 ∧
   S70 B a b (.slice (some ⟨g', off', none⟩) n' cap') ((p, q) :: met) (Q ++ [(p, q, s)]) w0 w4 ∧ (g' = gq ∨ w.heap.size ≤ g') ∧ (∀ k, k < w.heap.size → k ≠ B + 1 → k ≠ gq → w4.heap[k]? = w.heap[k]?) := by
 obtain ⟨mm, cc, r1, r2, r3, r4, r5, r6, r7, r8, r9⟩ := h
 have hins : (Instr.mapUpdate 110 (.map (some (B + 1))) (.agg #[.int .i64 (p : Int), .int .i64 (q : Int)]) (.bool true)).run Try.prog w = .ok () _ :=
  aupd_run (P := Try.prog) r2 (upd_m (kf := pV2) (vf := Value.bool) (l := mm) (k := ((p : Int), (q : Int))) (v := true) (c := cc) mty key_pair)
 have hne := r1.ne r2 (fun _ _ _ e => by cases e)
 obtain ⟨gq, offq, capq, Cq, rfl, s1, s2, s3, s4, s5⟩ := id r1
 have hgq : gq ≠ B + 1 := fun e => hne (by rw [e]; rfl)
 have hgpB : gp ≠ B + 1 := fun e => by rw [e, r2] at hgp; cases hgp
 obtain ⟨wd, hwd⟩ : ∃ wd, itSet w (B + 1) (.map (mE pV2 Value.bool (mSet cc ((p : Int), (q : Int)) true mm)).toArray (mClk cc ((p : Int), (q : Int)) mm)) = wd := ⟨_, rfl⟩
 rw [hwd] at hins
 have hds : wd.heap.size = w.heap.size := by rw [← hwd]; simp [itSet]
 have hgd : w.grownBy wd (some (B + 1)) := by
  rw [← hwd]
  refine ⟨rfl, rfl, rfl, by simp [itSet], fun k hk hne => ?_⟩
  simp only [itSet]
  rw [Array.getElem?_setIfInBounds, if_neg (fun e => hne (by rw [e]))]
 have hmd : wd.heap[B + 1]? = some (.map (mE pV2 Value.bool (mSet cc ((p : Int), (q : Int)) true mm)).toArray (mClk cc ((p : Int), (q : Int)) mm)) := by
  rw [← hwd]
  simp only [itSet]
  rw [Array.getElem?_setIfInBounds, if_pos rfl, if_pos hB]
 have hgpd : wd.heap[gp]? = some (.cells #[.int .i64 (p : Int), .int .i64 (q : Int)] 106) := (hgd.block gp (Array.getElem?_eq_some_iff.1 hgp).1 (fun e => hgpB (Option.some.inj e))).trans hgp
 have hQd := r1.kept hgd hne
 have hga : wd.grownBy (wd.alloc (.cells #[.int .i64 (p : Int), .int .i64 (q : Int), .string ⟨s.toArray⟩] 108)) none := ⟨rfl, rfl, rfl, by simp, fun k hk _ => heap_alloc_old _ _ hk⟩
 have hQe := hQd.kept hga (fun e => by cases e)
 obtain ⟨g', off', n', cap', w4, hap, hq4, hg4, hgg⟩ := append_q (gn := wd.heap.size) (e := (p, q, s)) 109 hQe (by simp; omega) (by omega) (fun j u hj => by
  rw [Addr.add_lit]
  have hc : (wd.alloc (.cells #[.int .i64 (p : Int), .int .i64 (q : Int), .string ⟨s.toArray⟩] 108)).heap[wd.heap.size]? = _ := heap_alloc_new wd _
  simp only [World.cell?, hc, Nat.zero_add]
  simp only [Option.isSome_none, Bool.false_eq_true, if_false]
  simpa [qc] using hj)
 have hkeep : ∀ k, k < w.heap.size → k ≠ B + 1 → k ≠ gq → w4.heap[k]? = w.heap[k]? := fun k hk h1 h2 => by
  rw [hg4.block k (by simp; omega) (fun e => h2 (Option.some.inj e)), heap_alloc_old _ _ (by omega), hgd.block k hk (fun e => h1 (Option.some.inj e))]
 refine ⟨gq, offq, capq, wd, g', off', n', cap', w4, rfl, hins, by simp [World.cell?, hgpd], by simp [World.cell?, hgpd], hap, ⟨mSet cc ((p : Int), (q : Int)) true mm, mClk cc ((p : Int), (q : Int)) mm, hq4, ?_, fun x y => ?_, ?_, ?_, ?_, ?_, ?_, ?_⟩, ?_, hkeep⟩
 ·rw [hg4.block (B + 1) (by simp; omega) (fun e => hgq (Option.some.inj e).symm), heap_alloc_old _ _ (by omega)]
  exact hmd
 ·rw [mGetD_pair]
  by_cases h : (p, q) = (x, y)
  ·cases h
   rw [if_pos rfl]
   simp
  ·have h1 : ¬ ((p : Int), (q : Int)) = ((x : Int), (y : Int)) := fun e => h (by
    have := Prod.mk.inj e
    exact Prod.ext (by simp only; omega) (by simp only; omega))
   rw [if_neg h1, r3]
   have h2 : ¬ (x, y) = (p, q) := fun e => h e.symm
   simp [List.mem_cons, h2]
 ·have h1 := (r4.grown hgd (by omega) (fun k hk => by cases hk; omega)).grown hga (by omega) (fun k hk => by cases hk)
  exact h1.grown hg4 (by simp; omega) (fun k hk => by cases hk; exact s1)
 ·exact List.nodup_cons.2 ⟨hnm, r5⟩
 ·intro e he
  rcases List.mem_cons.1 he with rfl | he
  ·exact ⟨by simp only; omega, by simp only; omega⟩
  ·exact r6 e he
 ·intro e he
  rcases List.mem_append.1 he with he | he
  ·exact r7 e he
  ·rw [List.mem_singleton.1 he]; exact ⟨hp, hq⟩
 ·simp only [List.length_append, List.length_cons, List.length_nil]; omega
 ·exact pairs_len (List.nodup_cons.2 ⟨hnm, r5⟩) (fun e he => by
   rcases List.mem_cons.1 he with rfl | he
   ·exact ⟨by simp only; omega, by simp only; omega⟩
   ·exact r6 e he)
 ·simp only [World.alloc, Array.size_push] at hgg
  rcases hgg with h | h
  ·exact .inl h
  ·exact .inr (by omega)
theorem differ_calls (a b : List UInt8) (most : Int) (w : World) (ha : a.length ≤ 10) (hb : b.length ≤ 10) (hm : most ≤ 10)
  (h81 : ∀ W : World, Below w.heap.size w W → ∀ (s : List UInt8) (i : Nat) (c : UInt8), (s = a ∨ s = b) → i ≤ s.length → c ∈ lets 6 → Calls Try.prog 81 #[.string ⟨s.toArray⟩, .int .i64 i, .int .u8 c.toNat] W fun e W' => e = .returned (.int .i64 (nxI s i c)) ∧ Below W.heap.size W W') :
  Calls Try.prog 70 #[.string ⟨a.toArray⟩, .string ⟨b.toArray⟩, .int .i64 most] w fun e w' => Post70 a b most w e w' := by
 have mixed : Try.prog.follows .mixedOrders = true := by kernel_rfl
 have hmm := fun w => run_makeMap (P := Try.prog) 110 w
 have mty : mapTy Try.prog 110 = some (106, 4) := by kernel_rfl
 obtain ⟨w0, hw0⟩ : ∃ w0, w.alloc (.cells #[.int .i64 0, .int .i64 0, .string ⟨#[]⟩] 108) = w0 := ⟨_, rfl⟩
 have hz0 : w0.heap.size = w.heap.size + 1 := by rw [← hw0]; simp
 have hins : (Instr.mapUpdate 110 (.map (some (w.heap.size + 1))) (.agg #[.int .i64 0, .int .i64 0]) (.bool true)).run Try.prog (w0.alloc (.map #[] 0)) = .ok () (itSet (w0.alloc (.map #[] 0)) (w.heap.size + 1) (.map (mE pV2 Value.bool [((0, 0), true, 0)]).toArray 1)) :=
  aupd_run (es := mE pV2 Value.bool []) (c := 0) (by rw [← hz0]; exact heap_alloc_new w0 _) (upd_m (kf := pV2) (vf := Value.bool) (l := []) (k := (0, 0)) (v := true) (c := 0) mty key_pair)
 obtain ⟨w1, hw1⟩ : ∃ w1, itSet (w0.alloc (.map #[] 0)) (w.heap.size + 1) (.map (mE pV2 Value.bool [((0, 0), true, 0)]).toArray 1) = w1 := ⟨_, rfl⟩
 have hS0 : S70 w.heap.size a b (.slice (some ⟨w.heap.size, 0, none⟩) 1 1) [(0, 0)] [(0, 0, [])] w w1 := by
  have hb0 : w1.heap[w.heap.size]? = some (.cells #[.int .i64 0, .int .i64 0, .string ⟨#[]⟩] 108) := by
   rw [← hw1]
   simp only [itSet]
   rw [Array.getElem?_setIfInBounds, if_neg (by omega), heap_alloc_old _ _ (by omega), ← hw0]
   exact heap_alloc_new _ _
  refine ⟨[((0, 0), true, 0)], 1, ⟨w.heap.size, 0, 1, _, rfl, Nat.le_refl _, hb0, Nat.le_refl _, Nat.le_refl _, fun j u hj => ?_⟩, ?_, fun x y => ?_, ?_, by simp, by simp, by simp, Nat.le_refl _, by simp⟩
  ·simp only [World.cell?, hb0]
   simp only [Option.isSome_none, Bool.false_eq_true, if_false, Nat.zero_add]
   simpa [qcs, qc] using hj
  ·rw [← hw1]
   simp [itSet, hz0]
  ·simp only [mGetD, mGet]
   by_cases h : x = 0 ∧ y = 0
   ·obtain ⟨rfl, rfl⟩ := h; rfl
   ·have h1 : ¬ ((0, 0) : Int × Int) = ((x : Int), (y : Int)) := fun e => h (by
     have := Prod.mk.inj e
     omega)
    have h2 : ¬ (x, y) ∈ [((0 : Nat), (0 : Nat))] := fun e => h (by simpa using e)
    rw [decide_eq_false h1, decide_eq_false h2]
    rfl
  ·rw [← hw1, ← hw0]
   refine ⟨rfl, rfl, rfl, by simp [itSet]; omega, fun k hk => ?_⟩
   simp only [itSet]
   rw [Array.getElem?_setIfInBounds, if_neg (by omega), heap_alloc_old _ _ (by simp; omega), heap_alloc_old _ _ hk]
 rw [hw1] at hins
 have HS0 := hid70 hS0
 have H81 := hid70 h81
 clear hS0 hw1 h81
 obtain ⟨R, hR⟩ : ∃ R, bfs a b most 200 [(0, 0)] [(0, 0, [])] = R := ⟨_, rfl⟩
 have HR := hid70 hR
 clear hR
 go_enter Try.func70, Try.ntmps70
 go_wp2_with fail
 clear hw0 hins hmm hz0
 go_loopg [9] 200 (fun gk s9 wx => ∃ (met : List (Nat × Nat)) (Q : List Way), S70 w.heap.size a b s9 met Q w wx ∧ bfs a b most gk met Q = R ∧ (121 - met.length) + Q.length < gk)
 case atStart => exact ⟨_, _, HS0.out, HR.out, by simp⟩
 case round =>
  clear HS0
  obtain ⟨met, Q, hS, hbf, hg⟩ := hrel
  obtain ⟨g', rfl⟩ : ∃ g', gk = g' + 1 := ⟨gk - 1, by omega⟩
  obtain ⟨m, c, q1, q2, q3, q4, q5, q6, q7, q8, q9⟩ := hS
  cases Q with
  | nil =>
   have hres : bfs a b most 200 [(0, 0)] [(0, 0, [])] = none := by rw [HR.out, ← hbf, bfs]
   have hfin : Post70 a b most w (.returned (.tuple #[.string ⟨#[]⟩, .bool false])) wr := ⟨_, hres, rfl, q4⟩
   obtain ⟨g, off, cap, C, hv, p1, p2, p3, p4, p5⟩ := id q1
   subst hv
   have Hfin := hid70 hfin
   clear hres hfin H81 q1 q2 q3 q4 q5 q6 q7 q8 q9 p1 p2 p3 p4 p5 hbf
   go_wp2_with fail
   go_ret2
   exact Hfin.out
  | cons e Q =>
   obtain ⟨i, j, part⟩ := e
   obtain ⟨g, off, cap, C, hv, p1, p2, p3, p4, p5⟩ := id q1
   subst hv
   have hc0 : wr.cell? ⟨g, off, none⟩ = some (.int .i64 (i : Int)) := p5 0 _ rfl
   have hc1 : wr.cell? ⟨g, off + 1, none⟩ = some (.int .i64 (j : Int)) := p5 1 _ rfl
   have hc2 : wr.cell? ⟨g, off + 2, none⟩ = some (.string ⟨part.toArray⟩) := p5 2 _ rfl
   have Q1 := hid70 q1
   have Q2 := hid70 q2
   have Q3 := hid70 q3
   have Q4 := hid70 q4
   have Q5 := hid70 q5
   have Q6 := hid70 q6
   have Q7 := hid70 q7
   have Hbf := hid70 hbf
   have P2 := hid70 p2
   clear q1 q2 q3 q4 q5 q6 q7 hbf p1 p2 p3 p4 p5
   by_cases hlen : (part.length : Int) < most
   ·have hq0 : (0 : Int) < ((Q.length : Int) + 1) := by omega
    have hQ9a : cap = 1 → QAt w.heap.size (.slice (some ⟨g, off, none⟩) Q.length 0) Q wr := fun h => by
     obtain ⟨g', off', cap', C', e1, h1, h2, h3, h4, h5⟩ := Q1.out
     injection e1 with e1 e2 e3
     injection e1 with e1
     injection e1 with e1 e4 _
     subst e1; subst e4; subst e3
     rw [List.length_cons] at h3
     have hq : Q = [] := List.length_eq_zero_iff.1 (by omega)
     subst hq
     exact ⟨g, off, 0, C', rfl, h1, h2, Nat.le_refl _, by omega, fun k u hk => by cases hk⟩
    have hQ9b : QAt w.heap.size (.slice (some ⟨g, off + 3, none⟩) Q.length (cap - 1)) Q wr := Q1.out.pop
    have HQ9a := hid70 hQ9a
    have HQ9b := hid70 hQ9b
    clear hQ9a hQ9b
    obtain ⟨Wv, hWv⟩ : ∃ Wv, wr.alloc (.cells #[.int .i64 (i : Int), .int .i64 (j : Int), .string ⟨part.toArray⟩] 108) = Wv := ⟨_, rfl⟩
    have hgv : wr.grownBy Wv none := by rw [← hWv]; exact ⟨rfl, rfl, rfl, by simp, fun k hk _ => heap_alloc_old _ _ hk⟩
    have hcv : Wv.heap[wr.heap.size]? = some (.cells #[.int .i64 (i : Int), .int .i64 (j : Int), .string ⟨part.toArray⟩] 108) := by rw [← hWv]; exact heap_alloc_new _ _
    have Hgv := hid70 hgv
    have Hcv := hid70 hcv
    clear hgv hcv
    go_wp2_with fail
    all_goals rename_i hcap
    ·have hq9 := HQ9a.out (by assumption)
     have hne9 : (Value.slice (some ⟨g, off, none⟩) Q.length 0).ownBlock ≠ some wr.heap.size := fun e => by
      have e2 : g = wr.heap.size := Option.some.inj e
      have := (Array.getElem?_eq_some_iff.1 P2.out).1
      omega
     generalize Value.slice (some ⟨g, off, none⟩) Q.length 0 = v9 at hq9 hne9 ⊢
     have HQ9 := hid70 hq9
     have Hne9 := hid70 hne9
     clear hq9 hne9
     obtain ⟨gw, hgw⟩ : ∃ gw, wr.heap.size = gw := ⟨_, rfl⟩
     have hQlen : Q.length + 1 ≤ met.length ∧ Q.length + 1 ≤ 1000 := by
      rw [List.length_cons] at q8
      omega
     have hS1 : S70 w.heap.size a b v9 met Q w Wv := by
      refine ⟨m, c, HQ9.out.kept Hgv.out (fun e => ?_), ?_, Q3.out, Q4.out.grown Hgv.out (by have := Q4.out.size; omega) (fun k hk => by cases hk), Q5.out, Q6.out, fun e he => Q7.out e (List.mem_cons_of_mem _ he), by omega, q9⟩
      ·obtain ⟨_, _, _, _, ev, _⟩ := HQ9.out
       rw [ev] at e; cases e
      ·rw [Hgv.out.block _ (Array.getElem?_eq_some_iff.1 Q2.out).1 (by simp)]
       exact Q2.out
     have hcv2 : Wv.heap[gw]? = some (.cells #[.int .i64 (i : Int), .int .i64 (j : Int), .string ⟨part.toArray⟩] 108) := by rw [← hgw]; exact Hcv.out
     have hB : w.heap.size ≤ gw := by rw [← hgw]; have := Q4.out.size; omega
     have hij : i ≤ a.length ∧ j ≤ b.length := Q7.out _ List.mem_cons_self
     have HS1 := hid70 hS1
     have Hcv2 := hid70 hcv2
     rw [hgw] at Hne9 ⊢
     clear hS1 hcv2 HQ9 HQ9a HQ9b hWv Hgv Hcv P2 Q1 Q2 Q3 Q4 Q5 Q6 Q7 hc0 hc1 hc2 hgw
     go_loopg [9, 12] 7 (fun gk2 s9 s12 wx => ∃ (t : Nat) (met' : List (Nat × Nat)) (Q' : List Way), s12 = .int .u8 (97 + (t : Int)) ∧ t ≤ 6 ∧ 6 < t + gk2 ∧ S70 w.heap.size a b s9 met' Q' w wx ∧ s9.ownBlock ≠ some gw ∧ wx.heap[gw]? = some (.cells #[.int .i64 (i : Int), .int .i64 (j : Int), .string ⟨part.toArray⟩] 108) ∧
      stL a b i j part ((lets 6).drop t) met' Q' = stL a b i j part (lets 6) met Q ∧ Q'.length + met.length = Q.length + met'.length)
     case atStart => exact ⟨0, met, Q, by first | rfl | simp, by omega, by omega, HS1.out, Hne9.out, Hcv2.out, rfl, rfl⟩
     case round =>
      clear HS1 Hcv2 Hne9
      obtain ⟨t, met', Q', rfl, ht, htg, hS, hne9, hcw, hst, hacc⟩ := hrel
      obtain ⟨g2, rfl⟩ : ∃ g2, gk = g2 + 1 := ⟨gk - 1, by omega⟩
      obtain ⟨m', c', q1, q2, q3, q4, q5, q6, q7, q8', q9'⟩ := hS
      have HS := hid70 (⟨m', c', q1, q2, q3, q4, q5, q6, q7, q8', q9'⟩ : S70 w.heap.size a b u9 met' Q' w wr)
      have Q4 := hid70 q4
      have Hcw := hid70 hcw
      have Hst := hid70 hst
      have Hne9 := hid70 hne9
      clear hne9
      by_cases ht6 : t < 6
      ·obtain ⟨x, hx⟩ : ∃ x, (lets 6)[t]? = some x := ⟨_, List.getElem?_eq_getElem (by rw [lets_len]; exact ht6)⟩
       have hxt : x.toNat = 97 + t := by
        have : x = UInt8.ofNat (97 + t) := by
         rw [List.getElem?_eq_getElem (by rw [lets_len]; exact ht6), lets_at ht6] at hx
         exact (Option.some.inj hx).symm
        rw [this, UInt8.toNat_ofNat']
        omega
       have hxl : x ∈ lets 6 := List.mem_of_getElem? hx
       have hxi : (97 + (t : Int)) = (x.toNat : Int) := by omega
       have hlt6 : (x.toNat : Int) < 103 := by omega
       have k0 : wr.cell? ⟨gw, 0, none⟩ = some (.int .i64 (i : Int)) := by simp [World.cell?, hcw]
       have k1 : wr.cell? ⟨gw, 1, none⟩ = some (.int .i64 (j : Int)) := by simp [World.cell?, hcw]
       have k2 : wr.cell? ⟨gw, 2, none⟩ = some (.string ⟨part.toArray⟩) := by simp [World.cell?, hcw]
       have hcall : ∀ (s : List UInt8) (z : Nat), (s = a ∨ s = b) → z ≤ s.length → ∀ W : World, Below w.heap.size w W → W.cell? ⟨gw, 0, none⟩ = some (.int .i64 (i : Int)) → W.cell? ⟨gw, 1, none⟩ = some (.int .i64 (j : Int)) →
         Calls Try.prog 81 #[.string ⟨s.toArray⟩, .int .i64 (z : Int), .int .u8 (97 + (t : Int))] W fun e W' => e = .returned (.int .i64 (nxI s z x)) ∧ Below w.heap.size w W' ∧ Below W.heap.size W W' ∧ W'.cell? ⟨gw, 0, none⟩ = some (.int .i64 (i : Int)) ∧ W'.cell? ⟨gw, 1, none⟩ = some (.int .i64 (j : Int)) := fun s z hs hz W hW c0 c1 => by
        rw [hxi]
        refine (H81.out W hW s z x hs hz hxl).mono fun e W' ⟨e1, e2⟩ => ?_
        have hg : gw < W.heap.size := by
         rcases Nat.lt_or_ge gw W.heap.size with h | h
         ·exact h
         ·simp [World.cell?, Array.getElem?_eq_none h] at c0
        exact ⟨e1, hW.trans (e2.mono hW.size), e2, (e2.cell (p := ⟨gw, 0, none⟩) hg).trans c0, (e2.cell (p := ⟨gw, 1, none⟩) hg).trans c1⟩
       have CC := hid70 hcall
       have Hxx := hid70 (⟨hx, hxt, hxl⟩ : (lets 6)[t]? = some x ∧ x.toNat = 97 + t ∧ x ∈ lets 6)
       have ht103 : 97 + (t : Int) < 103 := by omega
       have henc : Utf8.encode (97 + (t : Int)) = ⟨#[x]⟩ := by rw [hxi]; exact enc_ascii (by omega)
       have hadd : (⟨part.toArray⟩ : ByteArray) ++ ⟨#[x]⟩ = ⟨(part ++ [x]).toArray⟩ := add_ascii
       have hpl63 : ¬ (9223372036854775807 < part.length + 1) := by omega
       clear q1 q2 q3 q4 q5 q6 q7 hcw hst hxi hcall hx hxt hxl hlt6
       have n0 := World.new_ne wr ⟨gw, 0, none⟩ k0
       go_upto_region 10 with fail
       go_cut [13] (fun s13 wx => ∃ gp, s13 = .pointer (some ⟨gp, 0, none⟩) ∧ wr.heap.size ≤ gp ∧ wr.grownBy wx none ∧ wx.heap[gp]? = some (.cells #[.int .i64 (nxI a i x), .int .i64 (nxI b j x)] 106))
       case first =>
        clear Hst Hxx henc hadd hpl63 HS hQlen HR
        go_region_held3 (fun w' => w'.cell? ⟨gw, 0, none⟩ = some (.int .i64 (i : Int)) ∧ w'.cell? ⟨gw, 1, none⟩ = some (.int .i64 (j : Int))) (first | go_keep | exact ⟨set_far bq6 ba3, set_far bq6 ba4⟩)
          (first | (go_at_call 81; refine (CC.out _ _ (by first | exact .inl rfl | exact .inr rfl) (by first | exact hij.1 | exact hij.2) _ (by first | exact Q4.out.drew | exact Q4.out.drew.alloc Q4.out.size _ | assumption | exact Below.alloc (by assumption) (Below.size (by assumption)) _) (by first | exact k0 | exact cell_al k0 | assumption | exact cell_al (by assumption)) (by first | exact k1 | exact cell_al k1 | assumption | exact cell_al (by assumption))).mono ?_; rintro e wa ⟨rfl, ba1, ba2, ba3, ba4⟩; first | (have bq := al_cells (v := .int .i64 (i : Int)) gw ba2 (by assumption); obtain ⟨bq1, bq2, bq3, bq4, bq5, bq6⟩ := bq; try dsimp only [World.drew] at bq1 bq2 bq3 bq4 bq5 bq6) | (have bq := al_cellsD (v := .int .i64 (i : Int)) gw ba2 (by assumption); obtain ⟨bq1, bq2, bq3, bq4, bq5, bq6⟩ := bq) | (have bq := al_keep ba2 bq1; obtain ⟨bq1, bq2, bq3, bq4, bq5⟩ := bq) | skip))
        all_goals (go_wp2_with fail; go_meet)
        ·exact ⟨_, rfl, out1 (by assumption) ba2⟩
        ·exact ⟨_, rfl, out2 (by assumption) ba2⟩
        ·exact ⟨_, rfl, out3 (by assumption) ba2⟩
       case rest =>
        obtain ⟨gp, rfl, hgp, hgr, hcp⟩ := hcut
        have hgwlt : gw < wr.heap.size := (Array.getElem?_eq_some_iff.1 Hcw.out).1
        have hSc : S70 w.heap.size a b u9 met' Q' w wc := S70.kept (w := wr) HS.out (by have := Q4.out.size; omega) hgr
        have hcwc := (hgr.block gw hgwlt (by simp)).trans Hcw.out
        have d2 : wc.cell? ⟨gw, 2, none⟩ = some (.string ⟨part.toArray⟩) := by simp [World.cell?, hcwc]
        have e0 : wc.cell? ⟨gp, 0, none⟩ = some (.int .i64 (nxI a i x)) := by simp [World.cell?, hcp]
        have e1 : wc.cell? ⟨gp, 1, none⟩ = some (.int .i64 (nxI b j x)) := by simp [World.cell?, hcp]
        have HSc := hid70 hSc
        have Hcwc := hid70 hcwc
        have Hcp := hid70 hcp
        have Hgp := hid70 hgp
        clear HS Hcw Q4 CC hSc hcwc hcp k0 k1 n0 hgr hgp hgwlt H81
        rcases hna : nxN a i x with _ | p <;> rcases hnb : nxN b j x with _ | q
        ·have hX : nxI a i x = -1 := by unfold nxI; rw [hna]
         have hY : nxI b j x = -1 := by unfold nxI; rw [hnb]
         rw [hX] at e0
         rw [hY] at e1
         have Hst2 := hid70 ((stL_none Hxx.out.1 hna hnb).symm.trans Hst.out)
         clear hX hY hna hnb Hst
         go_wp2_with fail
         go_roundg g2
         case measure => omega
         case rel => exact ⟨t + 1, met', Q', by rw [show (97 : Int) + ((t + 1 : Nat) : Int) = 97 + (t : Int) + 1 by omega], by omega, by omega, HSc.out, Hne9.out, Hcwc.out, Hst2.out, hacc⟩
        ·have hX : nxI a i x = -1 := by unfold nxI; rw [hna]
         have hY : nxI b j x = (q : Int) := by unfold nxI; rw [hnb]
         have hq0' : ¬ (q : Int) < 0 := by omega
         rw [hX] at e0
         rw [hY] at e1
         have hres : bfs a b most 200 [(0, 0)] [(0, 0, [])] = some (part ++ [x]) := by rw [HR.out, ← Hbf.out, bfs, if_pos hlen, ← Hst.out, stL_out1 Hxx.out.1 hna hnb]
         have hfin : Post70 a b most w (.returned (.tuple #[.string ⟨(part ++ [x]).toArray⟩, .bool true])) wc := ⟨_, hres, rfl, by obtain ⟨_, _, _, _, _, hb, _⟩ := HSc.out; exact hb⟩
         have Hfin := hid70 hfin
         clear hres hfin hX hY hna hnb
         go_wp2_with fail
         go_ret2
         exact Hfin.out
        ·have hX : nxI a i x = (p : Int) := by unfold nxI; rw [hna]
         have hY : nxI b j x = -1 := by unfold nxI; rw [hnb]
         have hq0' : ¬ (p : Int) < 0 := by omega
         rw [hX] at e0
         rw [hY] at e1
         have hres : bfs a b most 200 [(0, 0)] [(0, 0, [])] = some (part ++ [x]) := by rw [HR.out, ← Hbf.out, bfs, if_pos hlen, ← Hst.out, stL_out2 Hxx.out.1 hna hnb]
         have hfin : Post70 a b most w (.returned (.tuple #[.string ⟨(part ++ [x]).toArray⟩, .bool true])) wc := ⟨_, hres, rfl, by obtain ⟨_, _, _, _, _, hb, _⟩ := HSc.out; exact hb⟩
         have Hfin := hid70 hfin
         clear hres hfin hX hY hna hnb
         go_wp2_with fail
         go_ret2
         exact Hfin.out
        ·have hX : nxI a i x = (p : Int) := by unfold nxI; rw [hna]
         have hY : nxI b j x = (q : Int) := by unfold nxI; rw [hnb]
         have hp0' : ¬ (p : Int) < 0 := by omega
         have hq0' : ¬ (q : Int) < 0 := by omega
         have hp1' : (0 : Int) ≤ (p : Int) := by omega
         rw [hX] at e0
         rw [hY] at e1
         have hcp2 := Hcp.out
         rw [hX, hY] at hcp2
         obtain ⟨mm, cc, r1, r2, r3, r4, r5, r6, r7, r8, r9⟩ := id HSc.out
         have hlk : (Instr.lookup 110 (.map (some (w.heap.size + 1))) (.agg #[.int .i64 (p : Int), .int .i64 (q : Int)]) false).run Try.prog wc = .ok (.bool (decide ((p, q) ∈ met'))) wc := by
          have h := alook_run r2 (look_m (kf := pV2) (vf := Value.bool) (l := mm) (k := ((p : Int), (q : Int))) (d := false) mty key_pair (by kernel_rfl) (fun _ => rfl) (ok := false))
          rw [r3 p q] at h
          exact h
         by_cases hmt : (p, q) ∈ met'
         ·rw [decide_eq_true hmt] at hlk
          have Hst2 := hid70 ((stL_met Hxx.out.1 hna hnb hmt).symm.trans Hst.out)
          clear hX hY hna hnb Hst hmt r1 r2 r3 r4 r5 r6 r7 r8 r9 hcp2 Hcp
          go_wp2_with fail
          go_roundg g2
          case measure => omega
          case rel => exact ⟨t + 1, met', Q', by rw [show (97 : Int) + ((t + 1 : Nat) : Int) = 97 + (t : Int) + 1 by omega], by omega, by omega, HSc.out, Hne9.out, Hcwc.out, Hst2.out, hacc⟩
         ·rw [decide_eq_false hmt] at hlk
          have hBw : w.heap.size + 1 < wc.heap.size := (Array.getElem?_eq_some_iff.1 r2).1
          have hgwB : gw ≠ w.heap.size + 1 := fun e => by
           have h := Hcwc.out
           rw [e, r2] at h
           cases h
          obtain ⟨gq, offq, capq, wd, gr, off', n', cap', w4, rfl, hins, f0, f1, hap, hS4, hgg, hkeep⟩ := push70 (s := part ++ [x]) HSc.out hBw ha hb hmt (nx_le hna) (nx_le hnb) hcp2 mty
          have hgwq : gw ≠ gq := fun e => Hne9.out (by rw [e]; rfl)
          have hgwl : gw < wc.heap.size := (Array.getElem?_eq_some_iff.1 Hcwc.out).1
          have Hcw4 := hid70 ((hkeep gw hgwl hgwB hgwq).trans Hcwc.out)
          have Hne4 := hid70 (show (Value.slice (some ⟨gr, off', none⟩) n' cap').ownBlock ≠ some gw from fun e => by
           have e2 : gr = gw := Option.some.inj e
           rcases hgg with h | h <;> omega)
          have HS4 := hid70 hS4
          have HAP := hid70 hap
          have Hst2 := hid70 ((stL_new Hxx.out.1 hna hnb hmt).symm.trans Hst.out)
          clear hX hY hna hnb Hst hmt r1 r2 r3 r4 r5 r6 r7 r8 r9 hcp2 Hcp hS4 hap hkeep hgg HSc Hcwc Hne9 hgwB hgwq hgwl hBw
          go_wp2_with (at_builtin; refine wpList_append_eq rfl _ _ 109 rfl _ _ _ _ rfl rfl HAP.out ?_)
          go_roundg g2
          case measure => omega
          case rel => exact ⟨t + 1, (p, q) :: met', Q' ++ [(p, q, part ++ [x])], by rw [show (97 : Int) + ((t + 1 : Nat) : Int) = 97 + (t : Int) + 1 by omega], by omega, by omega, HS4.out, Hne4.out, Hcw4.out, Hst2.out, by simp only [List.length_append, List.length_cons, List.length_nil]; omega⟩
      ·have e6 : t = 6 := by omega
       have hst6 := Hst.out
       rw [e6] at hst6
       have hend : bfs a b most g' met' Q' = R := by
        rw [← Hbf.out, bfs, if_pos hlen, ← hst6, show (lets 6).drop 6 = [] from rfl, stL]
       have Hend := hid70 hend
       have Hm : Hid (121 - met'.length + Q'.length < g') := hid70 (by rw [List.length_cons] at hg; omega)
       have h103 : ¬ (97 + (t : Int) < 103) := by omega
       clear hend e6 hst6 Hst q1 q2 q3 q4 q5 q6 q7 hcw hst H81 HR
       go_wp2_with fail
       go_roundg g'
       case measure => omega
       case rel => exact ⟨met', Q', by first | exact HS.out | exact HS.out, Hend.out, Hm.out⟩
    ·have hq9 := HQ9b.out
     have hne9 : (Value.slice (some ⟨g, off + 3, none⟩) Q.length (cap - 1)).ownBlock ≠ some wr.heap.size := fun e => by
      have e2 : g = wr.heap.size := Option.some.inj e
      have := (Array.getElem?_eq_some_iff.1 P2.out).1
      omega
     generalize Value.slice (some ⟨g, off + 3, none⟩) Q.length (cap - 1) = v9 at hq9 hne9 ⊢
     have HQ9 := hid70 hq9
     have Hne9 := hid70 hne9
     clear hq9 hne9
     obtain ⟨gw, hgw⟩ : ∃ gw, wr.heap.size = gw := ⟨_, rfl⟩
     have hQlen : Q.length + 1 ≤ met.length ∧ Q.length + 1 ≤ 1000 := by
      rw [List.length_cons] at q8
      omega
     have hS1 : S70 w.heap.size a b v9 met Q w Wv := by
      refine ⟨m, c, HQ9.out.kept Hgv.out (fun e => ?_), ?_, Q3.out, Q4.out.grown Hgv.out (by have := Q4.out.size; omega) (fun k hk => by cases hk), Q5.out, Q6.out, fun e he => Q7.out e (List.mem_cons_of_mem _ he), by omega, q9⟩
      ·obtain ⟨_, _, _, _, ev, _⟩ := HQ9.out
       rw [ev] at e; cases e
      ·rw [Hgv.out.block _ (Array.getElem?_eq_some_iff.1 Q2.out).1 (by simp)]
       exact Q2.out
     have hcv2 : Wv.heap[gw]? = some (.cells #[.int .i64 (i : Int), .int .i64 (j : Int), .string ⟨part.toArray⟩] 108) := by rw [← hgw]; exact Hcv.out
     have hB : w.heap.size ≤ gw := by rw [← hgw]; have := Q4.out.size; omega
     have hij : i ≤ a.length ∧ j ≤ b.length := Q7.out _ List.mem_cons_self
     have HS1 := hid70 hS1
     have Hcv2 := hid70 hcv2
     rw [hgw] at Hne9 ⊢
     clear hS1 hcv2 HQ9 HQ9a HQ9b hWv Hgv Hcv P2 Q1 Q2 Q3 Q4 Q5 Q6 Q7 hc0 hc1 hc2 hgw
     go_loopg [9, 12] 7 (fun gk2 s9 s12 wx => ∃ (t : Nat) (met' : List (Nat × Nat)) (Q' : List Way), s12 = .int .u8 (97 + (t : Int)) ∧ t ≤ 6 ∧ 6 < t + gk2 ∧ S70 w.heap.size a b s9 met' Q' w wx ∧ s9.ownBlock ≠ some gw ∧ wx.heap[gw]? = some (.cells #[.int .i64 (i : Int), .int .i64 (j : Int), .string ⟨part.toArray⟩] 108) ∧
      stL a b i j part ((lets 6).drop t) met' Q' = stL a b i j part (lets 6) met Q ∧ Q'.length + met.length = Q.length + met'.length)
     case atStart => exact ⟨0, met, Q, by first | rfl | simp, by omega, by omega, HS1.out, Hne9.out, Hcv2.out, rfl, rfl⟩
     case round =>
      clear HS1 Hcv2 Hne9
      obtain ⟨t, met', Q', rfl, ht, htg, hS, hne9, hcw, hst, hacc⟩ := hrel
      obtain ⟨g2, rfl⟩ : ∃ g2, gk = g2 + 1 := ⟨gk - 1, by omega⟩
      obtain ⟨m', c', q1, q2, q3, q4, q5, q6, q7, q8', q9'⟩ := hS
      have HS := hid70 (⟨m', c', q1, q2, q3, q4, q5, q6, q7, q8', q9'⟩ : S70 w.heap.size a b u9 met' Q' w wr)
      have Q4 := hid70 q4
      have Hcw := hid70 hcw
      have Hst := hid70 hst
      have Hne9 := hid70 hne9
      clear hne9
      by_cases ht6 : t < 6
      ·obtain ⟨x, hx⟩ : ∃ x, (lets 6)[t]? = some x := ⟨_, List.getElem?_eq_getElem (by rw [lets_len]; exact ht6)⟩
       have hxt : x.toNat = 97 + t := by
        have : x = UInt8.ofNat (97 + t) := by
         rw [List.getElem?_eq_getElem (by rw [lets_len]; exact ht6), lets_at ht6] at hx
         exact (Option.some.inj hx).symm
        rw [this, UInt8.toNat_ofNat']
        omega
       have hxl : x ∈ lets 6 := List.mem_of_getElem? hx
       have hxi : (97 + (t : Int)) = (x.toNat : Int) := by omega
       have hlt6 : (x.toNat : Int) < 103 := by omega
       have k0 : wr.cell? ⟨gw, 0, none⟩ = some (.int .i64 (i : Int)) := by simp [World.cell?, hcw]
       have k1 : wr.cell? ⟨gw, 1, none⟩ = some (.int .i64 (j : Int)) := by simp [World.cell?, hcw]
       have k2 : wr.cell? ⟨gw, 2, none⟩ = some (.string ⟨part.toArray⟩) := by simp [World.cell?, hcw]
       have hcall : ∀ (s : List UInt8) (z : Nat), (s = a ∨ s = b) → z ≤ s.length → ∀ W : World, Below w.heap.size w W → W.cell? ⟨gw, 0, none⟩ = some (.int .i64 (i : Int)) → W.cell? ⟨gw, 1, none⟩ = some (.int .i64 (j : Int)) →
         Calls Try.prog 81 #[.string ⟨s.toArray⟩, .int .i64 (z : Int), .int .u8 (97 + (t : Int))] W fun e W' => e = .returned (.int .i64 (nxI s z x)) ∧ Below w.heap.size w W' ∧ Below W.heap.size W W' ∧ W'.cell? ⟨gw, 0, none⟩ = some (.int .i64 (i : Int)) ∧ W'.cell? ⟨gw, 1, none⟩ = some (.int .i64 (j : Int)) := fun s z hs hz W hW c0 c1 => by
        rw [hxi]
        refine (H81.out W hW s z x hs hz hxl).mono fun e W' ⟨e1, e2⟩ => ?_
        have hg : gw < W.heap.size := by
         rcases Nat.lt_or_ge gw W.heap.size with h | h
         ·exact h
         ·simp [World.cell?, Array.getElem?_eq_none h] at c0
        exact ⟨e1, hW.trans (e2.mono hW.size), e2, (e2.cell (p := ⟨gw, 0, none⟩) hg).trans c0, (e2.cell (p := ⟨gw, 1, none⟩) hg).trans c1⟩
       have CC := hid70 hcall
       have Hxx := hid70 (⟨hx, hxt, hxl⟩ : (lets 6)[t]? = some x ∧ x.toNat = 97 + t ∧ x ∈ lets 6)
       have ht103 : 97 + (t : Int) < 103 := by omega
       have henc : Utf8.encode (97 + (t : Int)) = ⟨#[x]⟩ := by rw [hxi]; exact enc_ascii (by omega)
       have hadd : (⟨part.toArray⟩ : ByteArray) ++ ⟨#[x]⟩ = ⟨(part ++ [x]).toArray⟩ := add_ascii
       have hpl63 : ¬ (9223372036854775807 < part.length + 1) := by omega
       clear q1 q2 q3 q4 q5 q6 q7 hcw hst hxi hcall hx hxt hxl hlt6
       have n0 := World.new_ne wr ⟨gw, 0, none⟩ k0
       go_upto_region 10 with fail
       go_cut [13] (fun s13 wx => ∃ gp, s13 = .pointer (some ⟨gp, 0, none⟩) ∧ wr.heap.size ≤ gp ∧ wr.grownBy wx none ∧ wx.heap[gp]? = some (.cells #[.int .i64 (nxI a i x), .int .i64 (nxI b j x)] 106))
       case first =>
        clear Hst Hxx henc hadd hpl63 HS hQlen HR
        go_region_held3 (fun w' => w'.cell? ⟨gw, 0, none⟩ = some (.int .i64 (i : Int)) ∧ w'.cell? ⟨gw, 1, none⟩ = some (.int .i64 (j : Int))) (first | go_keep | exact ⟨set_far bq6 ba3, set_far bq6 ba4⟩)
          (first | (go_at_call 81; refine (CC.out _ _ (by first | exact .inl rfl | exact .inr rfl) (by first | exact hij.1 | exact hij.2) _ (by first | exact Q4.out.drew | exact Q4.out.drew.alloc Q4.out.size _ | assumption | exact Below.alloc (by assumption) (Below.size (by assumption)) _) (by first | exact k0 | exact cell_al k0 | assumption | exact cell_al (by assumption)) (by first | exact k1 | exact cell_al k1 | assumption | exact cell_al (by assumption))).mono ?_; rintro e wa ⟨rfl, ba1, ba2, ba3, ba4⟩; first | (have bq := al_cells (v := .int .i64 (i : Int)) gw ba2 (by assumption); obtain ⟨bq1, bq2, bq3, bq4, bq5, bq6⟩ := bq; try dsimp only [World.drew] at bq1 bq2 bq3 bq4 bq5 bq6) | (have bq := al_cellsD (v := .int .i64 (i : Int)) gw ba2 (by assumption); obtain ⟨bq1, bq2, bq3, bq4, bq5, bq6⟩ := bq) | (have bq := al_keep ba2 bq1; obtain ⟨bq1, bq2, bq3, bq4, bq5⟩ := bq) | skip))
        all_goals (go_wp2_with fail; go_meet)
        ·exact ⟨_, rfl, out1 (by assumption) ba2⟩
        ·exact ⟨_, rfl, out2 (by assumption) ba2⟩
        ·exact ⟨_, rfl, out3 (by assumption) ba2⟩
       case rest =>
        obtain ⟨gp, rfl, hgp, hgr, hcp⟩ := hcut
        have hgwlt : gw < wr.heap.size := (Array.getElem?_eq_some_iff.1 Hcw.out).1
        have hSc : S70 w.heap.size a b u9 met' Q' w wc := S70.kept (w := wr) HS.out (by have := Q4.out.size; omega) hgr
        have hcwc := (hgr.block gw hgwlt (by simp)).trans Hcw.out
        have d2 : wc.cell? ⟨gw, 2, none⟩ = some (.string ⟨part.toArray⟩) := by simp [World.cell?, hcwc]
        have e0 : wc.cell? ⟨gp, 0, none⟩ = some (.int .i64 (nxI a i x)) := by simp [World.cell?, hcp]
        have e1 : wc.cell? ⟨gp, 1, none⟩ = some (.int .i64 (nxI b j x)) := by simp [World.cell?, hcp]
        have HSc := hid70 hSc
        have Hcwc := hid70 hcwc
        have Hcp := hid70 hcp
        have Hgp := hid70 hgp
        clear HS Hcw Q4 CC hSc hcwc hcp k0 k1 n0 hgr hgp hgwlt H81
        rcases hna : nxN a i x with _ | p <;> rcases hnb : nxN b j x with _ | q
        ·have hX : nxI a i x = -1 := by unfold nxI; rw [hna]
         have hY : nxI b j x = -1 := by unfold nxI; rw [hnb]
         rw [hX] at e0
         rw [hY] at e1
         have Hst2 := hid70 ((stL_none Hxx.out.1 hna hnb).symm.trans Hst.out)
         clear hX hY hna hnb Hst
         go_wp2_with fail
         go_roundg g2
         case measure => omega
         case rel => exact ⟨t + 1, met', Q', by rw [show (97 : Int) + ((t + 1 : Nat) : Int) = 97 + (t : Int) + 1 by omega], by omega, by omega, HSc.out, Hne9.out, Hcwc.out, Hst2.out, hacc⟩
        ·have hX : nxI a i x = -1 := by unfold nxI; rw [hna]
         have hY : nxI b j x = (q : Int) := by unfold nxI; rw [hnb]
         have hq0' : ¬ (q : Int) < 0 := by omega
         rw [hX] at e0
         rw [hY] at e1
         have hres : bfs a b most 200 [(0, 0)] [(0, 0, [])] = some (part ++ [x]) := by rw [HR.out, ← Hbf.out, bfs, if_pos hlen, ← Hst.out, stL_out1 Hxx.out.1 hna hnb]
         have hfin : Post70 a b most w (.returned (.tuple #[.string ⟨(part ++ [x]).toArray⟩, .bool true])) wc := ⟨_, hres, rfl, by obtain ⟨_, _, _, _, _, hb, _⟩ := HSc.out; exact hb⟩
         have Hfin := hid70 hfin
         clear hres hfin hX hY hna hnb
         go_wp2_with fail
         go_ret2
         exact Hfin.out
        ·have hX : nxI a i x = (p : Int) := by unfold nxI; rw [hna]
         have hY : nxI b j x = -1 := by unfold nxI; rw [hnb]
         have hq0' : ¬ (p : Int) < 0 := by omega
         rw [hX] at e0
         rw [hY] at e1
         have hres : bfs a b most 200 [(0, 0)] [(0, 0, [])] = some (part ++ [x]) := by rw [HR.out, ← Hbf.out, bfs, if_pos hlen, ← Hst.out, stL_out2 Hxx.out.1 hna hnb]
         have hfin : Post70 a b most w (.returned (.tuple #[.string ⟨(part ++ [x]).toArray⟩, .bool true])) wc := ⟨_, hres, rfl, by obtain ⟨_, _, _, _, _, hb, _⟩ := HSc.out; exact hb⟩
         have Hfin := hid70 hfin
         clear hres hfin hX hY hna hnb
         go_wp2_with fail
         go_ret2
         exact Hfin.out
        ·have hX : nxI a i x = (p : Int) := by unfold nxI; rw [hna]
         have hY : nxI b j x = (q : Int) := by unfold nxI; rw [hnb]
         have hp0' : ¬ (p : Int) < 0 := by omega
         have hq0' : ¬ (q : Int) < 0 := by omega
         have hp1' : (0 : Int) ≤ (p : Int) := by omega
         rw [hX] at e0
         rw [hY] at e1
         have hcp2 := Hcp.out
         rw [hX, hY] at hcp2
         obtain ⟨mm, cc, r1, r2, r3, r4, r5, r6, r7, r8, r9⟩ := id HSc.out
         have hlk : (Instr.lookup 110 (.map (some (w.heap.size + 1))) (.agg #[.int .i64 (p : Int), .int .i64 (q : Int)]) false).run Try.prog wc = .ok (.bool (decide ((p, q) ∈ met'))) wc := by
          have h := alook_run r2 (look_m (kf := pV2) (vf := Value.bool) (l := mm) (k := ((p : Int), (q : Int))) (d := false) mty key_pair (by kernel_rfl) (fun _ => rfl) (ok := false))
          rw [r3 p q] at h
          exact h
         by_cases hmt : (p, q) ∈ met'
         ·rw [decide_eq_true hmt] at hlk
          have Hst2 := hid70 ((stL_met Hxx.out.1 hna hnb hmt).symm.trans Hst.out)
          clear hX hY hna hnb Hst hmt r1 r2 r3 r4 r5 r6 r7 r8 r9 hcp2 Hcp
          go_wp2_with fail
          go_roundg g2
          case measure => omega
          case rel => exact ⟨t + 1, met', Q', by rw [show (97 : Int) + ((t + 1 : Nat) : Int) = 97 + (t : Int) + 1 by omega], by omega, by omega, HSc.out, Hne9.out, Hcwc.out, Hst2.out, hacc⟩
         ·rw [decide_eq_false hmt] at hlk
          have hBw : w.heap.size + 1 < wc.heap.size := (Array.getElem?_eq_some_iff.1 r2).1
          have hgwB : gw ≠ w.heap.size + 1 := fun e => by
           have h := Hcwc.out
           rw [e, r2] at h
           cases h
          obtain ⟨gq, offq, capq, wd, gr, off', n', cap', w4, rfl, hins, f0, f1, hap, hS4, hgg, hkeep⟩ := push70 (s := part ++ [x]) HSc.out hBw ha hb hmt (nx_le hna) (nx_le hnb) hcp2 mty
          have hgwq : gw ≠ gq := fun e => Hne9.out (by rw [e]; rfl)
          have hgwl : gw < wc.heap.size := (Array.getElem?_eq_some_iff.1 Hcwc.out).1
          have Hcw4 := hid70 ((hkeep gw hgwl hgwB hgwq).trans Hcwc.out)
          have Hne4 := hid70 (show (Value.slice (some ⟨gr, off', none⟩) n' cap').ownBlock ≠ some gw from fun e => by
           have e2 : gr = gw := Option.some.inj e
           rcases hgg with h | h <;> omega)
          have HS4 := hid70 hS4
          have HAP := hid70 hap
          have Hst2 := hid70 ((stL_new Hxx.out.1 hna hnb hmt).symm.trans Hst.out)
          clear hX hY hna hnb Hst hmt r1 r2 r3 r4 r5 r6 r7 r8 r9 hcp2 Hcp hS4 hap hkeep hgg HSc Hcwc Hne9 hgwB hgwq hgwl hBw
          go_wp2_with (at_builtin; refine wpList_append_eq rfl _ _ 109 rfl _ _ _ _ rfl rfl HAP.out ?_)
          go_roundg g2
          case measure => omega
          case rel => exact ⟨t + 1, (p, q) :: met', Q' ++ [(p, q, part ++ [x])], by rw [show (97 : Int) + ((t + 1 : Nat) : Int) = 97 + (t : Int) + 1 by omega], by omega, by omega, HS4.out, Hne4.out, Hcw4.out, Hst2.out, by simp only [List.length_append, List.length_cons, List.length_nil]; omega⟩
      ·have e6 : t = 6 := by omega
       have hst6 := Hst.out
       rw [e6] at hst6
       have hend : bfs a b most g' met' Q' = R := by
        rw [← Hbf.out, bfs, if_pos hlen, ← hst6, show (lets 6).drop 6 = [] from rfl, stL]
       have Hend := hid70 hend
       have Hm : Hid (121 - met'.length + Q'.length < g') := hid70 (by rw [List.length_cons] at hg; omega)
       have h103 : ¬ (97 + (t : Int) < 103) := by omega
       clear hend e6 hst6 Hst q1 q2 q3 q4 q5 q6 q7 hcw hst H81 HR
       go_wp2_with fail
       go_roundg g'
       case measure => omega
       case rel => exact ⟨met', Q', by first | exact HS.out | exact HS.out, Hend.out, Hm.out⟩
   ·have hres : bfs a b most 200 [(0, 0)] [(0, 0, [])] = none := by rw [HR.out, ← Hbf.out, bfs, if_neg hlen]
    have hfin : Post70 a b most w (.returned (.tuple #[.string ⟨#[]⟩, .bool false])) wr := ⟨_, hres, rfl, Q4.out⟩
    have Hfin := hid70 hfin
    have hq0 : (0 : Int) < ((Q.length : Int) + 1) := by omega
    clear hres hfin H81
    go_wp2_with fail
    go_ret2
    exact Hfin.out
end Go.Proofs.Ytmnmfmghmenkkaa

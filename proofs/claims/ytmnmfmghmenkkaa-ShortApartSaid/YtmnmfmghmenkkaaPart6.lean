/-
  What the functions compute: how many parts.
  Words by numbers: what made,sized and taken answer.
  Parts by sets of letters.
  differ: the first of the shortest texts that one of two words has as a part,and the other one has not: a search over pairs of places.
  short.differ,for the evaluator.
  slices.ContainsFunc with short.Short's closure: has one of the words this part?
  short.Short: the first of the shortest parts of one word that no other word has.
  Texts compared in order,for the evaluator; lists that are not empty.
  The search of short.differ finds the first of the shortest texts that tell two words apart.
  ShortParts: parts are counted and listed as stated.
  Check,Left: without what is known of short.Short.
  short.Short,for the evaluator.
  What is known of functions holds.
  Arguments,as the rows of this seat read them.
  Slips,as the rows of this seat read them.
  Lists of texts,as the rows of this seat read them.
  ShortDiffer,ShortSimon: what the laws want of first,Apart,Alike.
  the reference: words that are told apart
  Printed by wip/tools/walk.py. Conditions: none; definitions and lemmas.
  ShortApart: the law's walk
  Printed by wip/tools/walk.py. Conditions: none; definitions and lemmas.
  Conditions: none; definitions and lemmas.
-/
import Derived.Deep.DeepCutAuto
import Derived.Deep.RegionHeld3
import Derived.Lib.OwnBridge
import Derived.Carry
import Derived.Test.YtmnmfmghmenkkaaPart4
import Derived.Test.YtmnmfmghmenkkaaPart5
set_option linter.unusedSimpArgs false
set_option linter.unusedVariables false
namespace Go.Proofs.Ytmnmfmghmenkkaa
open Go.Abs Go.Pur
set_option maxRecDepth 100000
theorem mGet_set {K V : Type} [DecidableEq K] {c : Nat} {k k' : K} {v : V} : ∀ {l : Mp K V},mGet k (mSet c k' v l) = if k' = k then some v else mGet k l
 | [] => by
  simp only [mSet,mGet]
  by_cases h : k' = k
  ·rw [decide_eq_true h,if_pos h]
  ·rw [decide_eq_false h,if_neg h]
 | e :: l => by
  rw [mSet]
  by_cases h1 : e.1 = k'
  ·rw [decide_eq_true h1]
   simp only [mGet]
   by_cases h : k' = k
   ·rw [decide_eq_true h,if_pos h]
   ·rw [decide_eq_false h,if_neg h,decide_eq_false (show ¬ e.1 = k by rw [h1]; exact h)]
  ·rw [decide_eq_false h1]
   simp only [mGet,mGet_set (l := l)]
   by_cases h : k' = k
   ·subst h
    rw [decide_eq_false h1]
   ·rw [if_neg h,if_neg h]
end Go.Proofs.Ytmnmfmghmenkkaa
set_option linter.unusedSimpArgs false
set_option linter.unusedVariables false
namespace Go.Proofs.Ytmnmfmghmenkkaa
open Go.Abs Go.Pur
set_option maxRecDepth 100000
theorem checkW_ok {w : List UInt8} (hw : w.length ≤ 10) (hl : ∀ c ∈ w,c ∈ lets 6) : checkW w = 0 := by
 unfold checkW
 rw [if_neg (by omega),if_pos]
 rw [List.all_eq_true]
 intro c hc
 have := (lets_mem (k := 6) (Nat.le_refl 6)).1 (hl c hc)
 unfold letW
 simp only [Bool.and_eq_true,decide_eq_true_eq]
 omega
theorem sadd_at {a b : List UInt8} (h : a.length + b.length ≤ 1000) : sadd a b = some (a ++ b) := by
 unfold sadd
 rw [Nat.ble_eq_true_of_le (by omega)]
end Go.Proofs.Ytmnmfmghmenkkaa
set_option linter.unusedSimpArgs false
set_option linter.unusedVariables false
namespace Go.Proofs.Ytmnmfmghmenkkaa
open Go.Abs Go.Pur
set_option maxRecDepth 100000
theorem tk_congr {f g : Nat → Bool} {l : List UInt8} : ∀ {k : Nat},(∀ j,j < k → f j = g j) → tk f l k = tk g l k
 | 0,_ => rfl
 | k + 1,h => by rw [tk,tk,tk_congr fun j hj => h j (by omega),h k (by omega)]
def tkN (M : Nat) (w : List UInt8) : List UInt8 := tk M.testBit w w.length
theorem tk_all {w : List UInt8} : ∀ {k : Nat},k ≤ w.length → ∀ {p : List UInt8},p.Sublist (w.take k) → ∃ M,M < 2 ^ k ∧ tk M.testBit w k = p
 | 0,_,p,h => ⟨0,by simp,by simp at h; simp [tk,h]⟩
 | k + 1,hk,p,h => by
  rw [List.take_add_one,List.getElem?_eq_getElem (show k < w.length by omega),Option.toList_some,List.sublist_append_iff] at h
  obtain ⟨p1,p2,rfl,h1,h2⟩ := h
  obtain ⟨M,hM,he⟩ := tk_all (k := k) (by omega) h1
  have h2' : p2 = [] ∨ p2 = [w[k]] := by
   cases h2 with
   | cons _ h2 => left; simpa using h2
   | cons_cons _ h2 => right; simp at h2; rw [h2]
  rw [Nat.pow_succ]
  rcases h2' with rfl | rfl
  ·refine ⟨M,by omega, ?_⟩
   rw [tk,he,Nat.testBit_lt_two_pow hM]
   simp
  ·refine ⟨2 ^ k + M,by omega, ?_⟩
   rw [tk,Nat.testBit_two_pow_add_eq,Nat.testBit_lt_two_pow hM,tk_congr (g := M.testBit) (fun j hj => Nat.testBit_two_pow_add_gt hj M),he]
   simp [List.getElem?_eq_getElem (show k < w.length by omega)]
theorem tkN_all {w p : List UInt8} (h : p.Sublist w) : ∃ M,M < 2 ^ w.length ∧ tkN M w = p := tk_all (Nat.le_refl _) (by rwa [List.take_length])
theorem tkN_sub {w : List UInt8} {M : Nat} : (tkN M w).Sublist w := by
 have := tk_sub (f := M.testBit) (l := w) w.length
 rwa [List.take_length] at this
def prtM (w : List UInt8) : Nat → Mp (List UInt8) Int × Nat
 | 0 => ([],0)
 | v + 1 => (mSet (prtM w v).2 (tkN v w) (mGetD 0 (tkN v w) (prtM w v).1 + 1) (prtM w v).1,mClk (prtM w v).2 (tkN v w) (prtM w v).1)
theorem prtM_get {w p : List UInt8} : ∀ {v : Nat},mGetD 0 p (prtM w v).1 = (((List.range v).filter fun M => decide (tkN M w = p)).length : Int)
 | 0 => rfl
 | v + 1 => by
  rw [List.range_succ,List.filter_append,List.length_append,prtM]
  unfold mGetD
  rw [mGet_set]
  have ih := prtM_get (w := w) (p := p) (v := v)
  unfold mGetD at ih
  by_cases h : tkN v w = p
  ·rw [if_pos h,h,Option.getD_some,ih]
   simp [h]
  ·rw [if_neg h,ih]
   simp [h]
theorem mSet_mem {K V : Type} [DecidableEq K] {c : Nat} {k p : K} {v : V} {l : Mp K V} : p ∈ (mSet c k v l).map (·.1) ↔ (p ∈ l.map (·.1) ∨ k = p) := by
 rw [mSet_keys]
 split
 ·rename_i h
  exact ⟨.inl,fun e => e.elim id fun e => e ▸ h⟩
 ·rw [List.mem_append,List.mem_singleton,eq_comm (a := p)]
theorem prtM_keys {w p : List UInt8} : ∀ {v : Nat},p ∈ (prtM w v).1.map (·.1) ↔ ∃ M,M < v ∧ tkN M w = p
 | 0 => by simp [prtM]
 | v + 1 => by
  rw [prtM]
  rw [show p ∈ (mSet (prtM w v).2 (tkN v w) (mGetD 0 (tkN v w) (prtM w v).1 + 1) (prtM w v).1,mClk (prtM w v).2 (tkN v w) (prtM w v).1).1.map (·.1) ↔ (p ∈ (prtM w v).1.map (·.1) ∨ tkN v w = p) from mSet_mem,prtM_keys]
  constructor
  ·rintro (⟨M,h,e⟩ | e)
   ·exact ⟨M,by omega,e⟩
   ·exact ⟨v,by omega,e⟩
  ·rintro ⟨M,h,e⟩
   rcases Nat.lt_or_ge M v with h2 | h2
   ·exact .inl ⟨M,h2,e⟩
   ·obtain rfl : M = v := by omega
    exact .inr e
theorem prtM_has {w p : List UInt8} : (0 < mGetD 0 p (prtM w (2 ^ w.length)).1) ↔ leftW w p = true := by
 rw [prtM_get,leftW_sub]
 constructor
 ·intro h
  obtain ⟨M,hM⟩ := List.exists_mem_of_length_pos (l := (List.range (2 ^ w.length)).filter fun M => decide (tkN M w = p)) (by omega)
  have := of_decide_eq_true (List.mem_filter.1 hM).2
  exact this ▸ tkN_sub
 ·intro h
  obtain ⟨M,h1,h2⟩ := tkN_all h
  have := List.length_pos_of_mem (l := (List.range (2 ^ w.length)).filter fun M => decide (tkN M w = p)) (List.mem_filter.2 ⟨List.mem_range.2 h1,by simp [h2]⟩)
  omega
end Go.Proofs.Ytmnmfmghmenkkaa
set_option linter.unusedSimpArgs false
set_option linter.unusedVariables false
namespace Go.Proofs.Ytmnmfmghmenkkaa
open Go.RowKit Go.Abs Go.Pur
set_option maxRecDepth 1000000
set_option maxHeartbeats 8000000
theorem cell_al {w : World} {p : Addr} {v : Value} {o : Obj} (h : w.cell? p = some v) : (w.alloc o).cell? p = some v := by
 have hl : p.block < w.heap.size := by
  rcases Nat.lt_or_ge p.block w.heap.size with h1 | h1
  ·exact h1
  ·simp [World.cell?,Array.getElem?_eq_none h1] at h
 rw [World.cell?_of_block (w := w) (heap_alloc_old w o hl)]
 exact h
theorem hid70 {p : Prop} (h : p) : Hid p := h
def S70 (B : Nat) (a b : List UInt8) (v : Value) (met : List (Nat × Nat)) (Q : List Way) (w0 w : World) : Prop :=
 ∃ (m : Mp (Int × Int) Bool) (c : Nat),QAt B v Q w ∧ w.heap[B + 1]? = some (.map (mE pV2 Value.bool m).toArray c) ∧ (∀ x y : Nat,mGetD false ((x : Int),(y : Int)) m = decide ((x,y) ∈ met)) ∧ Below B w0 w ∧
  met.Nodup ∧ (∀ p ∈ met,p.1 ≤ 10 ∧ p.2 ≤ 10) ∧ (∀ e ∈ Q,e.1 ≤ a.length ∧ e.2.1 ≤ b.length) ∧ Q.length ≤ met.length ∧ met.length ≤ 121
def Post70 (a b : List UInt8) (most : Int) (w : World) (e : Ending) (w' : World) : Prop :=
 ∃ R,bfs a b most 200 [(0,0)] [(0,0,[])] = R ∧ e = .returned (.tuple #[.string ⟨(R.getD []).toArray⟩,.bool R.isSome]) ∧ Below w.heap.size w w'
theorem al_cells {W w' : World} {x y v : Value} (gw : Nat) (h : Below (W.alloc (.cells #[x,y] 106)).heap.size (W.alloc (.cells #[x,y] 106)) w') (c0 : W.cell? ⟨gw,0,none⟩ = some v) : w'.heap[W.heap.size]? = some (.cells #[x,y] 106) ∧ w'.cell? ⟨W.heap.size,0,none⟩ = some x ∧ w'.cell? ⟨W.heap.size,1,none⟩ = some y ∧ w'.frozen? ⟨W.heap.size,0,none⟩ = false ∧ w'.frozen? ⟨W.heap.size,1,none⟩ = false ∧ W.heap.size ≠ gw := by
 have e : w'.heap[W.heap.size]? = some (.cells #[x,y] 106) := (h.block _ (by simp)).trans (heap_alloc_new _ _)
 have e2 : W.heap.size ≠ gw := fun e => by
  subst e
  simp [World.cell?] at c0
 refine ⟨e, ?_, ?_, ?_, ?_,e2⟩ <;> simp [World.cell?,World.frozen?,e]
theorem al_cellsD {W w' : World} {x y v : Value} (gw : Nat) (h : Below (W.alloc (.cells #[x,y] 106)).drew.heap.size (W.alloc (.cells #[x,y] 106)).drew w') (c0 : W.cell? ⟨gw,0,none⟩ = some v) : w'.heap[W.heap.size]? = some (.cells #[x,y] 106) ∧ w'.cell? ⟨W.heap.size,0,none⟩ = some x ∧ w'.cell? ⟨W.heap.size,1,none⟩ = some y ∧ w'.frozen? ⟨W.heap.size,0,none⟩ = false ∧ w'.frozen? ⟨W.heap.size,1,none⟩ = false ∧ W.heap.size ≠ gw :=
 al_cells gw ⟨h.os,h.tape,h.output,h.size,h.block⟩ c0
theorem set_far {w : World} {gp gw k k1 k2 : Nat} {x y v : Value} (h : gp ≠ gw) (c : w.cell? ⟨gw,k,none⟩ = some v) : ((w.setCell ⟨gp,k1,none⟩ x).setCell ⟨gp,k2,none⟩ y).cell? ⟨gw,k,none⟩ = some v := by
 rw [World.cell?_of_block (w := w),c]
 rw [Below.heap_setCell _ _ _ _ (fun e => h e.symm),Below.heap_setCell _ _ _ _ (fun e => h e.symm)]
theorem al_keep {W w' : World} {x y : Value} {g : Nat} (h : Below W.heap.size W w') (e0 : W.heap[g]? = some (.cells #[x,y] 106)) : w'.heap[g]? = some (.cells #[x,y] 106) ∧ w'.cell? ⟨g,0,none⟩ = some x ∧ w'.cell? ⟨g,1,none⟩ = some y ∧ w'.frozen? ⟨g,0,none⟩ = false ∧ w'.frozen? ⟨g,1,none⟩ = false := by
 have e : w'.heap[g]? = some (.cells #[x,y] 106) := (h.block _ (Array.getElem?_eq_some_iff.1 e0).1).trans e0
 refine ⟨e, ?_, ?_, ?_, ?_⟩ <;> simp [World.cell?,World.frozen?,e]
theorem two_set {w : World} {g : Nat} {x y X Y : Value} (e : w.heap[g]? = some (.cells #[x,y] 106)) : ((w.setCell ⟨g,0,none⟩ X).setCell ⟨g,1,none⟩ Y).heap[g]? = some (.cells #[X,Y] 106) := by
 simp [World.setCell,Array.getElem?_modify,e]
theorem set_below {w w' : World} {B g : Nat} {X Y : Value} (h : Below B w w') (hg : B ≤ g) : Below B w ((w'.setCell ⟨g,0,none⟩ X).setCell ⟨g,1,none⟩ Y) := (h.setCell (p := ⟨g,0,none⟩) hg X).setCell (p := ⟨g,1,none⟩) hg Y
theorem grown_of {w w' : World} (h : Below w.heap.size w w') : w.grownBy w' none := ⟨h.os,h.tape,h.output,h.size,fun k hk _ => h.block k hk⟩
theorem undrew {w w' : World} (h : Below w.drew.heap.size w.drew w') : Below w.heap.size w w' := ⟨h.os,h.tape,h.output,h.size,h.block⟩
theorem unal {w w' : World} {o : Obj} (h : Below (w.alloc o).heap.size (w.alloc o) w') : Below w.heap.size w w' := ((Below.refl _ _).alloc (Nat.le_refl _) o).trans (h.mono (by simp))
theorem out1 {wr wa wb : World} {X Y : Value} (h1 : Below wr.drew.heap.size wr.drew wa) (h2 : Below wa.heap.size wa wb) : wr.heap.size ≤ wb.heap.size ∧ wr.grownBy (wb.alloc (.cells #[X,Y] 106)) none ∧ (wb.alloc (.cells #[X,Y] 106)).heap[wb.heap.size]? = some (.cells #[X,Y] 106) := by
 have h := (undrew h1).trans (h2.mono (undrew h1).size)
 exact ⟨h.size,grown_of (h.alloc h.size _),heap_alloc_new _ _⟩
theorem out2 {wr wa wb : World} {x y X Y : Value} (h1 : Below wr.drew.heap.size wr.drew wa) (h2 : Below (wa.alloc (.cells #[x,y] 106)).heap.size (wa.alloc (.cells #[x,y] 106)) wb) : wr.heap.size ≤ wa.heap.size ∧ wr.grownBy ((wb.setCell ⟨wa.heap.size,0,none⟩ X).setCell ⟨wa.heap.size,1,none⟩ Y) none ∧ ((wb.setCell ⟨wa.heap.size,0,none⟩ X).setCell ⟨wa.heap.size,1,none⟩ Y).heap[wa.heap.size]? = some (.cells #[X,Y] 106) := by
 have h := (undrew h1).trans ((unal h2).mono (undrew h1).size)
 exact ⟨(undrew h1).size,grown_of (set_below h (undrew h1).size),two_set ((h2.block _ (by simp)).trans (heap_alloc_new _ _))⟩
theorem out3 {wr wa wb : World} {x y X Y : Value} (h1 : Below (wr.alloc (.cells #[x,y] 106)).drew.heap.size (wr.alloc (.cells #[x,y] 106)).drew wa) (h2 : Below wa.heap.size wa wb) : wr.heap.size ≤ wr.heap.size ∧ wr.grownBy ((wb.setCell ⟨wr.heap.size,0,none⟩ X).setCell ⟨wr.heap.size,1,none⟩ Y) none ∧ ((wb.setCell ⟨wr.heap.size,0,none⟩ X).setCell ⟨wr.heap.size,1,none⟩ Y).heap[wr.heap.size]? = some (.cells #[X,Y] 106) := by
 have h3 := undrew h1
 have hs := h3.size
 have h4 := (unal h3).trans (h2.mono (by simp at hs; omega))
 refine ⟨Nat.le_refl _,grown_of (set_below h4 (Nat.le_refl _)),two_set (x := x) (y := y) ?_⟩
 rw [h2.block _ (by simp at hs; omega),h3.block _ (by simp),heap_alloc_new]
theorem S70.kept {B : Nat} {a b : List UInt8} {v : Value} {met : List (Nat × Nat)} {Q : List Way} {w0 w w' : World} (h : S70 B a b v met Q w0 w) (hB : B ≤ w.heap.size) (hg : w.grownBy w' none) : S70 B a b v met Q w0 w' := by
 obtain ⟨m,c,q1,q2,q3,q4,q5⟩ := h
 refine ⟨m,c,q1.kept hg (fun e => ?_), ?_,q3,q4.grown hg hB (fun k hk => by cases hk),q5⟩
 ·obtain ⟨g,off,cap,C,e1,_⟩ := q1
  rw [e1] at e
  cases e
 ·rw [hg.block _ (Array.getElem?_eq_some_iff.1 q2).1 (by simp)]
  exact q2
theorem mGetD_pair {c : Nat} {k k' : Int × Int} {l : Mp (Int × Int) Bool} : mGetD false k (mSet c k' true l) = if k' = k then true else mGetD false k l := by
 unfold mGetD
 rw [mGet_set61]
 split <;> rfl
theorem pairs_len {l : List (Nat × Nat)} (hn : l.Nodup) (h : ∀ p ∈ l,p.1 ≤ 10 ∧ p.2 ≤ 10) : l.length ≤ 121 :=
 nodup_le (m := (List.range 11).flatMap fun i => (List.range 11).map fun j => (i,j)) hn fun p hp => by
  have := h p hp
  exact List.mem_flatMap.2 ⟨p.1,List.mem_range.2 (by omega),List.mem_map.2 ⟨p.2,List.mem_range.2 (by omega),rfl⟩⟩
theorem nx_le {w : List UInt8} {i k : Nat} {c : UInt8} (h : nxN w i c = some k) : k ≤ w.length := by
 unfold nxN at h
 cases hb : bhd (w.drop i) c with
 | none => rw [hb] at h; cases h
 | some w' => rw [hb] at h; cases h; exact Nat.sub_le _ _
theorem drop_at {l : List UInt8} {t : Nat} {x : UInt8} (h : l[t]? = some x) : l.drop t = x :: l.drop (t + 1) := by
 obtain ⟨h1,h2⟩ := List.getElem?_eq_some_iff.1 h
 rw [List.drop_eq_getElem_cons h1,h2]
theorem stL_none {a b : List UInt8} {i j t : Nat} {part l : List UInt8} {x : UInt8} {m : List (Nat × Nat)} {q : List Way} (hx : l[t]? = some x) (ha : nxN a i x = none) (hb : nxN b j x = none) : stL a b i j part (l.drop t) m q = stL a b i j part (l.drop (t + 1)) m q := by
 rw [drop_at hx,stL,ha,hb]
theorem stL_met {a b : List UInt8} {i j t p' q' : Nat} {part l : List UInt8} {x : UInt8} {m : List (Nat × Nat)} {q : List Way} (hx : l[t]? = some x) (ha : nxN a i x = some p') (hb : nxN b j x = some q') (hm : (p',q') ∈ m) : stL a b i j part (l.drop t) m q = stL a b i j part (l.drop (t + 1)) m q := by
 rw [drop_at hx,stL,ha,hb]
 exact if_pos hm
theorem stL_new {a b : List UInt8} {i j t p' q' : Nat} {part l : List UInt8} {x : UInt8} {m : List (Nat × Nat)} {q : List Way} (hx : l[t]? = some x) (ha : nxN a i x = some p') (hb : nxN b j x = some q') (hm : (p',q') ∉ m) : stL a b i j part (l.drop t) m q = stL a b i j part (l.drop (t + 1)) ((p',q') :: m) (q ++ [(p',q',part ++ [x])]) := by
 rw [drop_at hx,stL,ha,hb]
 exact if_neg hm
theorem stL_out1 {a b : List UInt8} {i j t q' : Nat} {part l : List UInt8} {x : UInt8} {m : List (Nat × Nat)} {q : List Way} (hx : l[t]? = some x) (ha : nxN a i x = none) (hb : nxN b j x = some q') : stL a b i j part (l.drop t) m q = (some (part ++ [x]),m,q) := by
 rw [drop_at hx,stL,ha,hb]
theorem stL_out2 {a b : List UInt8} {i j t p' : Nat} {part l : List UInt8} {x : UInt8} {m : List (Nat × Nat)} {q : List Way} (hx : l[t]? = some x) (ha : nxN a i x = some p') (hb : nxN b j x = none) : stL a b i j part (l.drop t) m q = (some (part ++ [x]),m,q) := by
 rw [drop_at hx,stL,ha,hb]
theorem push70 {B p q gp : Nat} {a b s : List UInt8} {v : Value} {met : List (Nat × Nat)} {Q : List Way} {w0 w : World} (h : S70 B a b v met Q w0 w) (hB : B + 1 < w.heap.size) (ha : a.length ≤ 10) (hb : b.length ≤ 10) (hnm : (p,q) ∉ met) (hp : p ≤ a.length) (hq : q ≤ b.length)
  (hgp : w.heap[gp]? = some (.cells #[.int .i64 (p : Int),.int .i64 (q : Int)] 106)) (mty : mapTy Try.prog 110 = some (106,4)) :
  ∃ gq offq capq wd g' off' n' cap' w4,v = .slice (some ⟨gq,offq,none⟩) Q.length capq ∧ (Instr.mapUpdate 110 (.map (some (B + 1))) (.agg #[.int .i64 (p : Int),.int .i64 (q : Int)]) (.bool true)).run Try.prog w = .ok () wd ∧
   wd.cell? ⟨gp,0,none⟩ = some (.int .i64 (p : Int)) ∧ wd.cell? ⟨gp,1,none⟩ = some (.int .i64 (q : Int)) ∧
   (Builtin.append_ #[109,109] 109 #[.slice (some ⟨gq,offq,none⟩) Q.length capq,.slice (some ⟨wd.heap.size,0,none⟩) 1 1]).run Try.prog (wd.alloc (.cells #[.int .i64 (p : Int),.int .i64 (q : Int),.string ⟨s.toArray⟩] 108)) = .ok (.slice (some ⟨g',off',none⟩) n' cap') w4 ∧
   S70 B a b (.slice (some ⟨g',off',none⟩) n' cap') ((p,q) :: met) (Q ++ [(p,q,s)]) w0 w4 ∧ (g' = gq ∨ w.heap.size ≤ g') ∧ (∀ k,k < w.heap.size → k ≠ B + 1 → k ≠ gq → w4.heap[k]? = w.heap[k]?) := by
 obtain ⟨mm,cc,r1,r2,r3,r4,r5,r6,r7,r8,r9⟩ := h
 have hins : (Instr.mapUpdate 110 (.map (some (B + 1))) (.agg #[.int .i64 (p : Int),.int .i64 (q : Int)]) (.bool true)).run Try.prog w = .ok () _ :=
  aupd_run (P := Try.prog) r2 (upd_m (kf := pV2) (vf := Value.bool) (l := mm) (k := ((p : Int),(q : Int))) (v := true) (c := cc) mty key_pair)
 have hne := r1.ne r2 (fun _ _ _ e => by cases e)
 obtain ⟨gq,offq,capq,Cq,rfl,s1,s2,s3,s4,s5⟩ := id r1
 have hgq : gq ≠ B + 1 := fun e => hne (by rw [e]; rfl)
 have hgpB : gp ≠ B + 1 := fun e => by rw [e,r2] at hgp; cases hgp
 obtain ⟨wd,hwd⟩ : ∃ wd,itSet w (B + 1) (.map (mE pV2 Value.bool (mSet cc ((p : Int),(q : Int)) true mm)).toArray (mClk cc ((p : Int),(q : Int)) mm)) = wd := ⟨_,rfl⟩
 rw [hwd] at hins
 have hds : wd.heap.size = w.heap.size := by rw [← hwd]; simp [itSet]
 have hgd : w.grownBy wd (some (B + 1)) := by
  rw [← hwd]
  refine ⟨rfl,rfl,rfl,by simp [itSet],fun k hk hne => ?_⟩
  simp only [itSet]
  rw [Array.getElem?_setIfInBounds,if_neg (fun e => hne (by rw [e]))]
 have hmd : wd.heap[B + 1]? = some (.map (mE pV2 Value.bool (mSet cc ((p : Int),(q : Int)) true mm)).toArray (mClk cc ((p : Int),(q : Int)) mm)) := by
  rw [← hwd]
  simp only [itSet]
  rw [Array.getElem?_setIfInBounds,if_pos rfl,if_pos hB]
 have hgpd : wd.heap[gp]? = some (.cells #[.int .i64 (p : Int),.int .i64 (q : Int)] 106) := (hgd.block gp (Array.getElem?_eq_some_iff.1 hgp).1 (fun e => hgpB (Option.some.inj e))).trans hgp
 have hQd := r1.kept hgd hne
 have hga : wd.grownBy (wd.alloc (.cells #[.int .i64 (p : Int),.int .i64 (q : Int),.string ⟨s.toArray⟩] 108)) none := ⟨rfl,rfl,rfl,by simp,fun k hk _ => heap_alloc_old _ _ hk⟩
 have hQe := hQd.kept hga (fun e => by cases e)
 obtain ⟨g',off',n',cap',w4,hap,hq4,hg4,hgg⟩ := append_q (gn := wd.heap.size) (e := (p,q,s)) 109 hQe (by simp; omega) (by omega) (fun j u hj => by
  rw [Addr.add_lit]
  have hc : (wd.alloc (.cells #[.int .i64 (p : Int),.int .i64 (q : Int),.string ⟨s.toArray⟩] 108)).heap[wd.heap.size]? = _ := heap_alloc_new wd _
  simp only [World.cell?,hc,Nat.zero_add]
  simp only [Option.isSome_none,Bool.false_eq_true,if_false]
  simpa [qc] using hj)
 have hkeep : ∀ k,k < w.heap.size → k ≠ B + 1 → k ≠ gq → w4.heap[k]? = w.heap[k]? := fun k hk h1 h2 => by
  rw [hg4.block k (by simp; omega) (fun e => h2 (Option.some.inj e)),heap_alloc_old _ _ (by omega),hgd.block k hk (fun e => h1 (Option.some.inj e))]
 refine ⟨gq,offq,capq,wd,g',off',n',cap',w4,rfl,hins,by simp [World.cell?,hgpd],by simp [World.cell?,hgpd],hap,⟨mSet cc ((p : Int),(q : Int)) true mm,mClk cc ((p : Int),(q : Int)) mm,hq4, ?_,fun x y => ?_, ?_, ?_, ?_, ?_, ?_, ?_⟩, ?_,hkeep⟩
 ·rw [hg4.block (B + 1) (by simp; omega) (fun e => hgq (Option.some.inj e).symm),heap_alloc_old _ _ (by omega)]
  exact hmd
 ·rw [mGetD_pair]
  by_cases h : (p,q) = (x,y)
  ·cases h
   rw [if_pos rfl]
   simp
  ·have h1 : ¬ ((p : Int),(q : Int)) = ((x : Int),(y : Int)) := fun e => h (by
    have := Prod.mk.inj e
    exact Prod.ext (by simp only; omega) (by simp only; omega))
   rw [if_neg h1,r3]
   have h2 : ¬ (x,y) = (p,q) := fun e => h e.symm
   simp [List.mem_cons,h2]
 ·have h1 := (r4.grown hgd (by omega) (fun k hk => by cases hk; omega)).grown hga (by omega) (fun k hk => by cases hk)
  exact h1.grown hg4 (by simp; omega) (fun k hk => by cases hk; exact s1)
 ·exact List.nodup_cons.2 ⟨hnm,r5⟩
 ·intro e he
  rcases List.mem_cons.1 he with rfl | he
  ·exact ⟨by simp only; omega,by simp only; omega⟩
  ·exact r6 e he
 ·intro e he
  rcases List.mem_append.1 he with he | he
  ·exact r7 e he
  ·rw [List.mem_singleton.1 he]; exact ⟨hp,hq⟩
 ·simp only [List.length_append,List.length_cons,List.length_nil]; omega
 ·exact pairs_len (List.nodup_cons.2 ⟨hnm,r5⟩) (fun e he => by
   rcases List.mem_cons.1 he with rfl | he
   ·exact ⟨by simp only; omega,by simp only; omega⟩
   ·exact r6 e he)
 ·simp only [World.alloc,Array.size_push] at hgg
  rcases hgg with h | h
  ·exact .inl h
  ·exact .inr (by omega)
theorem differ_calls (a b : List UInt8) (most : Int) (w : World) (ha : a.length ≤ 10) (hb : b.length ≤ 10) (hm : most ≤ 10)
  (h81 : ∀ W : World,Below w.heap.size w W → ∀ (s : List UInt8) (i : Nat) (c : UInt8),(s = a ∨ s = b) → i ≤ s.length → c ∈ lets 6 → Calls Try.prog 81 #[.string ⟨s.toArray⟩,.int .i64 i,.int .u8 c.toNat] W fun e W' => e = .returned (.int .i64 (nxI s i c)) ∧ Below W.heap.size W W') :
  Calls Try.prog 70 #[.string ⟨a.toArray⟩,.string ⟨b.toArray⟩,.int .i64 most] w fun e w' => Post70 a b most w e w' := by
 have mixed : Try.prog.follows .mixedOrders = true := by kernel_rfl
 have hmm := fun w => run_makeMap (P := Try.prog) 110 w
 have mty : mapTy Try.prog 110 = some (106,4) := by kernel_rfl
 obtain ⟨w0,hw0⟩ : ∃ w0,w.alloc (.cells #[.int .i64 0,.int .i64 0,.string ⟨#[]⟩] 108) = w0 := ⟨_,rfl⟩
 have hz0 : w0.heap.size = w.heap.size + 1 := by rw [← hw0]; simp
 have hins : (Instr.mapUpdate 110 (.map (some (w.heap.size + 1))) (.agg #[.int .i64 0,.int .i64 0]) (.bool true)).run Try.prog (w0.alloc (.map #[] 0)) = .ok () (itSet (w0.alloc (.map #[] 0)) (w.heap.size + 1) (.map (mE pV2 Value.bool [((0,0),true,0)]).toArray 1)) :=
  aupd_run (es := mE pV2 Value.bool []) (c := 0) (by rw [← hz0]; exact heap_alloc_new w0 _) (upd_m (kf := pV2) (vf := Value.bool) (l := []) (k := (0,0)) (v := true) (c := 0) mty key_pair)
 obtain ⟨w1,hw1⟩ : ∃ w1,itSet (w0.alloc (.map #[] 0)) (w.heap.size + 1) (.map (mE pV2 Value.bool [((0,0),true,0)]).toArray 1) = w1 := ⟨_,rfl⟩
 have hS0 : S70 w.heap.size a b (.slice (some ⟨w.heap.size,0,none⟩) 1 1) [(0,0)] [(0,0,[])] w w1 := by
  have hb0 : w1.heap[w.heap.size]? = some (.cells #[.int .i64 0,.int .i64 0,.string ⟨#[]⟩] 108) := by
   rw [← hw1]
   simp only [itSet]
   rw [Array.getElem?_setIfInBounds,if_neg (by omega),heap_alloc_old _ _ (by omega),← hw0]
   exact heap_alloc_new _ _
  refine ⟨[((0,0),true,0)],1,⟨w.heap.size,0,1,_,rfl,Nat.le_refl _,hb0,Nat.le_refl _,Nat.le_refl _,fun j u hj => ?_⟩, ?_,fun x y => ?_, ?_,by simp,by simp,by simp,Nat.le_refl _,by simp⟩
  ·simp only [World.cell?,hb0]
   simp only [Option.isSome_none,Bool.false_eq_true,if_false,Nat.zero_add]
   simpa [qcs,qc] using hj
  ·rw [← hw1]
   simp [itSet,hz0]
  ·simp only [mGetD,mGet]
   by_cases h : x = 0 ∧ y = 0
   ·obtain ⟨rfl,rfl⟩ := h; rfl
   ·have h1 : ¬ ((0,0) : Int × Int) = ((x : Int),(y : Int)) := fun e => h (by
     have := Prod.mk.inj e
     omega)
    have h2 : ¬ (x,y) ∈ [((0 : Nat),(0 : Nat))] := fun e => h (by simpa using e)
    rw [decide_eq_false h1,decide_eq_false h2]
    rfl
  ·rw [← hw1,← hw0]
   refine ⟨rfl,rfl,rfl,by simp [itSet]; omega,fun k hk => ?_⟩
   simp only [itSet]
   rw [Array.getElem?_setIfInBounds,if_neg (by omega),heap_alloc_old _ _ (by simp; omega),heap_alloc_old _ _ hk]
 rw [hw1] at hins
 have HS0 := hid70 hS0
 have H81 := hid70 h81
 clear hS0 hw1 h81
 obtain ⟨R,hR⟩ : ∃ R,bfs a b most 200 [(0,0)] [(0,0,[])] = R := ⟨_,rfl⟩
 have HR := hid70 hR
 clear hR
 go_enter Try.func70,Try.ntmps70
 go_wp2_with fail
 clear hw0 hins hmm hz0
 go_loopg [9] 200 (fun gk s9 wx => ∃ (met : List (Nat × Nat)) (Q : List Way),S70 w.heap.size a b s9 met Q w wx ∧ bfs a b most gk met Q = R ∧ (121 - met.length) + Q.length < gk)
 case atStart => exact ⟨_,_,HS0.out,HR.out,by simp⟩
 case round =>
  clear HS0
  obtain ⟨met,Q,hS,hbf,hg⟩ := hrel
  obtain ⟨g',rfl⟩ : ∃ g',gk = g' + 1 := ⟨gk - 1,by omega⟩
  obtain ⟨m,c,q1,q2,q3,q4,q5,q6,q7,q8,q9⟩ := hS
  cases Q with
  | nil =>
   have hres : bfs a b most 200 [(0,0)] [(0,0,[])] = none := by rw [HR.out,← hbf,bfs]
   have hfin : Post70 a b most w (.returned (.tuple #[.string ⟨#[]⟩,.bool false])) wr := ⟨_,hres,rfl,q4⟩
   obtain ⟨g,off,cap,C,hv,p1,p2,p3,p4,p5⟩ := id q1
   subst hv
   have Hfin := hid70 hfin
   clear hres hfin H81 q1 q2 q3 q4 q5 q6 q7 q8 q9 p1 p2 p3 p4 p5 hbf
   go_wp2_with fail
   go_ret2
   exact Hfin.out
  | cons e Q =>
   obtain ⟨i,j,part⟩ := e
   obtain ⟨g,off,cap,C,hv,p1,p2,p3,p4,p5⟩ := id q1
   subst hv
   have hc0 : wr.cell? ⟨g,off,none⟩ = some (.int .i64 (i : Int)) := p5 0 _ rfl
   have hc1 : wr.cell? ⟨g,off + 1,none⟩ = some (.int .i64 (j : Int)) := p5 1 _ rfl
   have hc2 : wr.cell? ⟨g,off + 2,none⟩ = some (.string ⟨part.toArray⟩) := p5 2 _ rfl
   have Q1 := hid70 q1
   have Q2 := hid70 q2
   have Q3 := hid70 q3
   have Q4 := hid70 q4
   have Q5 := hid70 q5
   have Q6 := hid70 q6
   have Q7 := hid70 q7
   have Hbf := hid70 hbf
   have P2 := hid70 p2
   clear q1 q2 q3 q4 q5 q6 q7 hbf p1 p2 p3 p4 p5
   by_cases hlen : (part.length : Int) < most
   ·have hq0 : (0 : Int) < ((Q.length : Int) + 1) := by omega
    have hQ9a : cap = 1 → QAt w.heap.size (.slice (some ⟨g,off,none⟩) Q.length 0) Q wr := fun h => by
     obtain ⟨g',off',cap',C',e1,h1,h2,h3,h4,h5⟩ := Q1.out
     injection e1 with e1 e2 e3
     injection e1 with e1
     injection e1 with e1 e4 _
     subst e1; subst e4; subst e3
     rw [List.length_cons] at h3
     have hq : Q = [] := List.length_eq_zero_iff.1 (by omega)
     subst hq
     exact ⟨g,off,0,C',rfl,h1,h2,Nat.le_refl _,by omega,fun k u hk => by cases hk⟩
    have hQ9b : QAt w.heap.size (.slice (some ⟨g,off + 3,none⟩) Q.length (cap - 1)) Q wr := Q1.out.pop
    have HQ9a := hid70 hQ9a
    have HQ9b := hid70 hQ9b
    clear hQ9a hQ9b
    obtain ⟨Wv,hWv⟩ : ∃ Wv,wr.alloc (.cells #[.int .i64 (i : Int),.int .i64 (j : Int),.string ⟨part.toArray⟩] 108) = Wv := ⟨_,rfl⟩
    have hgv : wr.grownBy Wv none := by rw [← hWv]; exact ⟨rfl,rfl,rfl,by simp,fun k hk _ => heap_alloc_old _ _ hk⟩
    have hcv : Wv.heap[wr.heap.size]? = some (.cells #[.int .i64 (i : Int),.int .i64 (j : Int),.string ⟨part.toArray⟩] 108) := by rw [← hWv]; exact heap_alloc_new _ _
    have Hgv := hid70 hgv
    have Hcv := hid70 hcv
    clear hgv hcv
    go_wp2_with fail
    all_goals rename_i hcap
    ·have hq9 := HQ9a.out (by assumption)
     have hne9 : (Value.slice (some ⟨g,off,none⟩) Q.length 0).ownBlock ≠ some wr.heap.size := fun e => by
      have e2 : g = wr.heap.size := Option.some.inj e
      have := (Array.getElem?_eq_some_iff.1 P2.out).1
      omega
     generalize Value.slice (some ⟨g,off,none⟩) Q.length 0 = v9 at hq9 hne9 ⊢
     have HQ9 := hid70 hq9
     have Hne9 := hid70 hne9
     clear hq9 hne9
     obtain ⟨gw,hgw⟩ : ∃ gw,wr.heap.size = gw := ⟨_,rfl⟩
     have hQlen : Q.length + 1 ≤ met.length ∧ Q.length + 1 ≤ 1000 := by
      rw [List.length_cons] at q8
      omega
     have hS1 : S70 w.heap.size a b v9 met Q w Wv := by
      refine ⟨m,c,HQ9.out.kept Hgv.out (fun e => ?_), ?_,Q3.out,Q4.out.grown Hgv.out (by have := Q4.out.size; omega) (fun k hk => by cases hk),Q5.out,Q6.out,fun e he => Q7.out e (List.mem_cons_of_mem _ he),by omega,q9⟩
      ·obtain ⟨_,_,_,_,ev,_⟩ := HQ9.out
       rw [ev] at e; cases e
      ·rw [Hgv.out.block _ (Array.getElem?_eq_some_iff.1 Q2.out).1 (by simp)]
       exact Q2.out
     have hcv2 : Wv.heap[gw]? = some (.cells #[.int .i64 (i : Int),.int .i64 (j : Int),.string ⟨part.toArray⟩] 108) := by rw [← hgw]; exact Hcv.out
     have hB : w.heap.size ≤ gw := by rw [← hgw]; have := Q4.out.size; omega
     have hij : i ≤ a.length ∧ j ≤ b.length := Q7.out _ List.mem_cons_self
     have HS1 := hid70 hS1
     have Hcv2 := hid70 hcv2
     rw [hgw] at Hne9 ⊢
     clear hS1 hcv2 HQ9 HQ9a HQ9b hWv Hgv Hcv P2 Q1 Q2 Q3 Q4 Q5 Q6 Q7 hc0 hc1 hc2 hgw
     go_loopg [9,12] 7 (fun gk2 s9 s12 wx => ∃ (t : Nat) (met' : List (Nat × Nat)) (Q' : List Way),s12 = .int .u8 (97 + (t : Int)) ∧ t ≤ 6 ∧ 6 < t + gk2 ∧ S70 w.heap.size a b s9 met' Q' w wx ∧ s9.ownBlock ≠ some gw ∧ wx.heap[gw]? = some (.cells #[.int .i64 (i : Int),.int .i64 (j : Int),.string ⟨part.toArray⟩] 108) ∧
      stL a b i j part ((lets 6).drop t) met' Q' = stL a b i j part (lets 6) met Q ∧ Q'.length + met.length = Q.length + met'.length)
     case atStart => exact ⟨0,met,Q,by first | rfl | simp,by omega,by omega,HS1.out,Hne9.out,Hcv2.out,rfl,rfl⟩
     case round =>
      clear HS1 Hcv2 Hne9
      obtain ⟨t,met',Q',rfl,ht,htg,hS,hne9,hcw,hst,hacc⟩ := hrel
      obtain ⟨g2,rfl⟩ : ∃ g2,gk = g2 + 1 := ⟨gk - 1,by omega⟩
      obtain ⟨m',c',q1,q2,q3,q4,q5,q6,q7,q8',q9'⟩ := hS
      have HS := hid70 (⟨m',c',q1,q2,q3,q4,q5,q6,q7,q8',q9'⟩ : S70 w.heap.size a b u9 met' Q' w wr)
      have Q4 := hid70 q4
      have Hcw := hid70 hcw
      have Hst := hid70 hst
      have Hne9 := hid70 hne9
      clear hne9
      by_cases ht6 : t < 6
      ·obtain ⟨x,hx⟩ : ∃ x,(lets 6)[t]? = some x := ⟨_,List.getElem?_eq_getElem (by rw [lets_len]; exact ht6)⟩
       have hxt : x.toNat = 97 + t := by
        have : x = UInt8.ofNat (97 + t) := by
         rw [List.getElem?_eq_getElem (by rw [lets_len]; exact ht6),lets_at ht6] at hx
         exact (Option.some.inj hx).symm
        rw [this,UInt8.toNat_ofNat']
        omega
       have hxl : x ∈ lets 6 := List.mem_of_getElem? hx
       have hxi : (97 + (t : Int)) = (x.toNat : Int) := by omega
       have hlt6 : (x.toNat : Int) < 103 := by omega
       have k0 : wr.cell? ⟨gw,0,none⟩ = some (.int .i64 (i : Int)) := by simp [World.cell?,hcw]
       have k1 : wr.cell? ⟨gw,1,none⟩ = some (.int .i64 (j : Int)) := by simp [World.cell?,hcw]
       have k2 : wr.cell? ⟨gw,2,none⟩ = some (.string ⟨part.toArray⟩) := by simp [World.cell?,hcw]
       have hcall : ∀ (s : List UInt8) (z : Nat),(s = a ∨ s = b) → z ≤ s.length → ∀ W : World,Below w.heap.size w W → W.cell? ⟨gw,0,none⟩ = some (.int .i64 (i : Int)) → W.cell? ⟨gw,1,none⟩ = some (.int .i64 (j : Int)) →
         Calls Try.prog 81 #[.string ⟨s.toArray⟩,.int .i64 (z : Int),.int .u8 (97 + (t : Int))] W fun e W' => e = .returned (.int .i64 (nxI s z x)) ∧ Below w.heap.size w W' ∧ Below W.heap.size W W' ∧ W'.cell? ⟨gw,0,none⟩ = some (.int .i64 (i : Int)) ∧ W'.cell? ⟨gw,1,none⟩ = some (.int .i64 (j : Int)) := fun s z hs hz W hW c0 c1 => by
        rw [hxi]
        refine (H81.out W hW s z x hs hz hxl).mono fun e W' ⟨e1,e2⟩ => ?_
        have hg : gw < W.heap.size := by
         rcases Nat.lt_or_ge gw W.heap.size with h | h
         ·exact h
         ·simp [World.cell?,Array.getElem?_eq_none h] at c0
        exact ⟨e1,hW.trans (e2.mono hW.size),e2,(e2.cell (p := ⟨gw,0,none⟩) hg).trans c0,(e2.cell (p := ⟨gw,1,none⟩) hg).trans c1⟩
       have CC := hid70 hcall
       have Hxx := hid70 (⟨hx,hxt,hxl⟩ : (lets 6)[t]? = some x ∧ x.toNat = 97 + t ∧ x ∈ lets 6)
       have ht103 : 97 + (t : Int) < 103 := by omega
       have henc : Utf8.encode (97 + (t : Int)) = ⟨#[x]⟩ := by rw [hxi]; exact enc_ascii (by omega)
       have hadd : (⟨part.toArray⟩ : ByteArray) ++ ⟨#[x]⟩ = ⟨(part ++ [x]).toArray⟩ := add_ascii
       have hpl63 : ¬ (9223372036854775807 < part.length + 1) := by omega
       clear q1 q2 q3 q4 q5 q6 q7 hcw hst hxi hcall hx hxt hxl hlt6
       have n0 := World.new_ne wr ⟨gw,0,none⟩ k0
       go_upto_region 10 with fail
       go_cut [13] (fun s13 wx => ∃ gp,s13 = .pointer (some ⟨gp,0,none⟩) ∧ wr.heap.size ≤ gp ∧ wr.grownBy wx none ∧ wx.heap[gp]? = some (.cells #[.int .i64 (nxI a i x),.int .i64 (nxI b j x)] 106))
       case first =>
        clear Hst Hxx henc hadd hpl63 HS hQlen HR
        go_region_held3 (fun w' => w'.cell? ⟨gw,0,none⟩ = some (.int .i64 (i : Int)) ∧ w'.cell? ⟨gw,1,none⟩ = some (.int .i64 (j : Int))) (first | go_keep | exact ⟨set_far bq6 ba3,set_far bq6 ba4⟩)
          (first | (go_at_call 81; refine (CC.out _ _ (by first | exact .inl rfl | exact .inr rfl) (by first | exact hij.1 | exact hij.2) _ (by first | exact Q4.out.drew | exact Q4.out.drew.alloc Q4.out.size _ | assumption | exact Below.alloc (by assumption) (Below.size (by assumption)) _) (by first | exact k0 | exact cell_al k0 | assumption | exact cell_al (by assumption)) (by first | exact k1 | exact cell_al k1 | assumption | exact cell_al (by assumption))).mono ?_; rintro e wa ⟨rfl,ba1,ba2,ba3,ba4⟩; first | (have bq := al_cells (v := .int .i64 (i : Int)) gw ba2 (by assumption); obtain ⟨bq1,bq2,bq3,bq4,bq5,bq6⟩ := bq; try dsimp only [World.drew] at bq1 bq2 bq3 bq4 bq5 bq6) | (have bq := al_cellsD (v := .int .i64 (i : Int)) gw ba2 (by assumption); obtain ⟨bq1,bq2,bq3,bq4,bq5,bq6⟩ := bq) | (have bq := al_keep ba2 bq1; obtain ⟨bq1,bq2,bq3,bq4,bq5⟩ := bq) | skip))
        all_goals (go_wp2_with fail; go_meet)
        ·exact ⟨_,rfl,out1 (by assumption) ba2⟩
        ·exact ⟨_,rfl,out2 (by assumption) ba2⟩
        ·exact ⟨_,rfl,out3 (by assumption) ba2⟩
       case rest =>
        obtain ⟨gp,rfl,hgp,hgr,hcp⟩ := hcut
        have hgwlt : gw < wr.heap.size := (Array.getElem?_eq_some_iff.1 Hcw.out).1
        have hSc : S70 w.heap.size a b u9 met' Q' w wc := S70.kept (w := wr) HS.out (by have := Q4.out.size; omega) hgr
        have hcwc := (hgr.block gw hgwlt (by simp)).trans Hcw.out
        have d2 : wc.cell? ⟨gw,2,none⟩ = some (.string ⟨part.toArray⟩) := by simp [World.cell?,hcwc]
        have e0 : wc.cell? ⟨gp,0,none⟩ = some (.int .i64 (nxI a i x)) := by simp [World.cell?,hcp]
        have e1 : wc.cell? ⟨gp,1,none⟩ = some (.int .i64 (nxI b j x)) := by simp [World.cell?,hcp]
        have HSc := hid70 hSc
        have Hcwc := hid70 hcwc
        have Hcp := hid70 hcp
        have Hgp := hid70 hgp
        clear HS Hcw Q4 CC hSc hcwc hcp k0 k1 n0 hgr hgp hgwlt H81
        rcases hna : nxN a i x with _ | p <;> rcases hnb : nxN b j x with _ | q
        ·have hX : nxI a i x = -1 := by unfold nxI; rw [hna]
         have hY : nxI b j x = -1 := by unfold nxI; rw [hnb]
         rw [hX] at e0
         rw [hY] at e1
         have Hst2 := hid70 ((stL_none Hxx.out.1 hna hnb).symm.trans Hst.out)
         clear hX hY hna hnb Hst
         go_wp2_with fail
         go_roundg g2
         case measure => omega
         case rel => exact ⟨t + 1,met',Q',by rw [show (97 : Int) + ((t + 1 : Nat) : Int) = 97 + (t : Int) + 1 by omega],by omega,by omega,HSc.out,Hne9.out,Hcwc.out,Hst2.out,hacc⟩
        ·have hX : nxI a i x = -1 := by unfold nxI; rw [hna]
         have hY : nxI b j x = (q : Int) := by unfold nxI; rw [hnb]
         have hq0' : ¬ (q : Int) < 0 := by omega
         rw [hX] at e0
         rw [hY] at e1
         have hres : bfs a b most 200 [(0,0)] [(0,0,[])] = some (part ++ [x]) := by rw [HR.out,← Hbf.out,bfs,if_pos hlen,← Hst.out,stL_out1 Hxx.out.1 hna hnb]
         have hfin : Post70 a b most w (.returned (.tuple #[.string ⟨(part ++ [x]).toArray⟩,.bool true])) wc := ⟨_,hres,rfl,by obtain ⟨_,_,_,_,_,hb,_⟩ := HSc.out; exact hb⟩
         have Hfin := hid70 hfin
         clear hres hfin hX hY hna hnb
         go_wp2_with fail
         go_ret2
         exact Hfin.out
        ·have hX : nxI a i x = (p : Int) := by unfold nxI; rw [hna]
         have hY : nxI b j x = -1 := by unfold nxI; rw [hnb]
         have hq0' : ¬ (p : Int) < 0 := by omega
         rw [hX] at e0
         rw [hY] at e1
         have hres : bfs a b most 200 [(0,0)] [(0,0,[])] = some (part ++ [x]) := by rw [HR.out,← Hbf.out,bfs,if_pos hlen,← Hst.out,stL_out2 Hxx.out.1 hna hnb]
         have hfin : Post70 a b most w (.returned (.tuple #[.string ⟨(part ++ [x]).toArray⟩,.bool true])) wc := ⟨_,hres,rfl,by obtain ⟨_,_,_,_,_,hb,_⟩ := HSc.out; exact hb⟩
         have Hfin := hid70 hfin
         clear hres hfin hX hY hna hnb
         go_wp2_with fail
         go_ret2
         exact Hfin.out
        ·have hX : nxI a i x = (p : Int) := by unfold nxI; rw [hna]
         have hY : nxI b j x = (q : Int) := by unfold nxI; rw [hnb]
         have hp0' : ¬ (p : Int) < 0 := by omega
         have hq0' : ¬ (q : Int) < 0 := by omega
         have hp1' : (0 : Int) ≤ (p : Int) := by omega
         rw [hX] at e0
         rw [hY] at e1
         have hcp2 := Hcp.out
         rw [hX,hY] at hcp2
         obtain ⟨mm,cc,r1,r2,r3,r4,r5,r6,r7,r8,r9⟩ := id HSc.out
         have hlk : (Instr.lookup 110 (.map (some (w.heap.size + 1))) (.agg #[.int .i64 (p : Int),.int .i64 (q : Int)]) false).run Try.prog wc = .ok (.bool (decide ((p,q) ∈ met'))) wc := by
          have h := alook_run r2 (look_m (kf := pV2) (vf := Value.bool) (l := mm) (k := ((p : Int),(q : Int))) (d := false) mty key_pair (by kernel_rfl) (fun _ => rfl) (ok := false))
          rw [r3 p q] at h
          exact h
         by_cases hmt : (p,q) ∈ met'
         ·rw [decide_eq_true hmt] at hlk
          have Hst2 := hid70 ((stL_met Hxx.out.1 hna hnb hmt).symm.trans Hst.out)
          clear hX hY hna hnb Hst hmt r1 r2 r3 r4 r5 r6 r7 r8 r9 hcp2 Hcp
          go_wp2_with fail
          go_roundg g2
          case measure => omega
          case rel => exact ⟨t + 1,met',Q',by rw [show (97 : Int) + ((t + 1 : Nat) : Int) = 97 + (t : Int) + 1 by omega],by omega,by omega,HSc.out,Hne9.out,Hcwc.out,Hst2.out,hacc⟩
         ·rw [decide_eq_false hmt] at hlk
          have hBw : w.heap.size + 1 < wc.heap.size := (Array.getElem?_eq_some_iff.1 r2).1
          have hgwB : gw ≠ w.heap.size + 1 := fun e => by
           have h := Hcwc.out
           rw [e,r2] at h
           cases h
          obtain ⟨gq,offq,capq,wd,gr,off',n',cap',w4,rfl,hins,f0,f1,hap,hS4,hgg,hkeep⟩ := push70 (s := part ++ [x]) HSc.out hBw ha hb hmt (nx_le hna) (nx_le hnb) hcp2 mty
          have hgwq : gw ≠ gq := fun e => Hne9.out (by rw [e]; rfl)
          have hgwl : gw < wc.heap.size := (Array.getElem?_eq_some_iff.1 Hcwc.out).1
          have Hcw4 := hid70 ((hkeep gw hgwl hgwB hgwq).trans Hcwc.out)
          have Hne4 := hid70 (show (Value.slice (some ⟨gr,off',none⟩) n' cap').ownBlock ≠ some gw from fun e => by
           have e2 : gr = gw := Option.some.inj e
           rcases hgg with h | h <;> omega)
          have HS4 := hid70 hS4
          have HAP := hid70 hap
          have Hst2 := hid70 ((stL_new Hxx.out.1 hna hnb hmt).symm.trans Hst.out)
          clear hX hY hna hnb Hst hmt r1 r2 r3 r4 r5 r6 r7 r8 r9 hcp2 Hcp hS4 hap hkeep hgg HSc Hcwc Hne9 hgwB hgwq hgwl hBw
          go_wp2_with (at_builtin; refine wpList_append_eq rfl _ _ 109 rfl _ _ _ _ rfl rfl HAP.out ?_)
          go_roundg g2
          case measure => omega
          case rel => exact ⟨t + 1,(p,q) :: met',Q' ++ [(p,q,part ++ [x])],by rw [show (97 : Int) + ((t + 1 : Nat) : Int) = 97 + (t : Int) + 1 by omega],by omega,by omega,HS4.out,Hne4.out,Hcw4.out,Hst2.out,by simp only [List.length_append,List.length_cons,List.length_nil]; omega⟩
      ·have e6 : t = 6 := by omega
       have hst6 := Hst.out
       rw [e6] at hst6
       have hend : bfs a b most g' met' Q' = R := by
        rw [← Hbf.out,bfs,if_pos hlen,← hst6,show (lets 6).drop 6 = [] from rfl,stL]
       have Hend := hid70 hend
       have Hm : Hid (121 - met'.length + Q'.length < g') := hid70 (by rw [List.length_cons] at hg; omega)
       have h103 : ¬ (97 + (t : Int) < 103) := by omega
       clear hend e6 hst6 Hst q1 q2 q3 q4 q5 q6 q7 hcw hst H81 HR
       go_wp2_with fail
       go_roundg g'
       case measure => omega
       case rel => exact ⟨met',Q',by first | exact HS.out | exact HS.out,Hend.out,Hm.out⟩
    ·have hq9 := HQ9b.out
     have hne9 : (Value.slice (some ⟨g,off + 3,none⟩) Q.length (cap - 1)).ownBlock ≠ some wr.heap.size := fun e => by
      have e2 : g = wr.heap.size := Option.some.inj e
      have := (Array.getElem?_eq_some_iff.1 P2.out).1
      omega
     generalize Value.slice (some ⟨g,off + 3,none⟩) Q.length (cap - 1) = v9 at hq9 hne9 ⊢
     have HQ9 := hid70 hq9
     have Hne9 := hid70 hne9
     clear hq9 hne9
     obtain ⟨gw,hgw⟩ : ∃ gw,wr.heap.size = gw := ⟨_,rfl⟩
     have hQlen : Q.length + 1 ≤ met.length ∧ Q.length + 1 ≤ 1000 := by
      rw [List.length_cons] at q8
      omega
     have hS1 : S70 w.heap.size a b v9 met Q w Wv := by
      refine ⟨m,c,HQ9.out.kept Hgv.out (fun e => ?_), ?_,Q3.out,Q4.out.grown Hgv.out (by have := Q4.out.size; omega) (fun k hk => by cases hk),Q5.out,Q6.out,fun e he => Q7.out e (List.mem_cons_of_mem _ he),by omega,q9⟩
      ·obtain ⟨_,_,_,_,ev,_⟩ := HQ9.out
       rw [ev] at e; cases e
      ·rw [Hgv.out.block _ (Array.getElem?_eq_some_iff.1 Q2.out).1 (by simp)]
       exact Q2.out
     have hcv2 : Wv.heap[gw]? = some (.cells #[.int .i64 (i : Int),.int .i64 (j : Int),.string ⟨part.toArray⟩] 108) := by rw [← hgw]; exact Hcv.out
     have hB : w.heap.size ≤ gw := by rw [← hgw]; have := Q4.out.size; omega
     have hij : i ≤ a.length ∧ j ≤ b.length := Q7.out _ List.mem_cons_self
     have HS1 := hid70 hS1
     have Hcv2 := hid70 hcv2
     rw [hgw] at Hne9 ⊢
     clear hS1 hcv2 HQ9 HQ9a HQ9b hWv Hgv Hcv P2 Q1 Q2 Q3 Q4 Q5 Q6 Q7 hc0 hc1 hc2 hgw
     go_loopg [9,12] 7 (fun gk2 s9 s12 wx => ∃ (t : Nat) (met' : List (Nat × Nat)) (Q' : List Way),s12 = .int .u8 (97 + (t : Int)) ∧ t ≤ 6 ∧ 6 < t + gk2 ∧ S70 w.heap.size a b s9 met' Q' w wx ∧ s9.ownBlock ≠ some gw ∧ wx.heap[gw]? = some (.cells #[.int .i64 (i : Int),.int .i64 (j : Int),.string ⟨part.toArray⟩] 108) ∧
      stL a b i j part ((lets 6).drop t) met' Q' = stL a b i j part (lets 6) met Q ∧ Q'.length + met.length = Q.length + met'.length)
     case atStart => exact ⟨0,met,Q,by first | rfl | simp,by omega,by omega,HS1.out,Hne9.out,Hcv2.out,rfl,rfl⟩
     case round =>
      clear HS1 Hcv2 Hne9
      obtain ⟨t,met',Q',rfl,ht,htg,hS,hne9,hcw,hst,hacc⟩ := hrel
      obtain ⟨g2,rfl⟩ : ∃ g2,gk = g2 + 1 := ⟨gk - 1,by omega⟩
      obtain ⟨m',c',q1,q2,q3,q4,q5,q6,q7,q8',q9'⟩ := hS
      have HS := hid70 (⟨m',c',q1,q2,q3,q4,q5,q6,q7,q8',q9'⟩ : S70 w.heap.size a b u9 met' Q' w wr)
      have Q4 := hid70 q4
      have Hcw := hid70 hcw
      have Hst := hid70 hst
      have Hne9 := hid70 hne9
      clear hne9
      by_cases ht6 : t < 6
      ·obtain ⟨x,hx⟩ : ∃ x,(lets 6)[t]? = some x := ⟨_,List.getElem?_eq_getElem (by rw [lets_len]; exact ht6)⟩
       have hxt : x.toNat = 97 + t := by
        have : x = UInt8.ofNat (97 + t) := by
         rw [List.getElem?_eq_getElem (by rw [lets_len]; exact ht6),lets_at ht6] at hx
         exact (Option.some.inj hx).symm
        rw [this,UInt8.toNat_ofNat']
        omega
       have hxl : x ∈ lets 6 := List.mem_of_getElem? hx
       have hxi : (97 + (t : Int)) = (x.toNat : Int) := by omega
       have hlt6 : (x.toNat : Int) < 103 := by omega
       have k0 : wr.cell? ⟨gw,0,none⟩ = some (.int .i64 (i : Int)) := by simp [World.cell?,hcw]
       have k1 : wr.cell? ⟨gw,1,none⟩ = some (.int .i64 (j : Int)) := by simp [World.cell?,hcw]
       have k2 : wr.cell? ⟨gw,2,none⟩ = some (.string ⟨part.toArray⟩) := by simp [World.cell?,hcw]
       have hcall : ∀ (s : List UInt8) (z : Nat),(s = a ∨ s = b) → z ≤ s.length → ∀ W : World,Below w.heap.size w W → W.cell? ⟨gw,0,none⟩ = some (.int .i64 (i : Int)) → W.cell? ⟨gw,1,none⟩ = some (.int .i64 (j : Int)) →
         Calls Try.prog 81 #[.string ⟨s.toArray⟩,.int .i64 (z : Int),.int .u8 (97 + (t : Int))] W fun e W' => e = .returned (.int .i64 (nxI s z x)) ∧ Below w.heap.size w W' ∧ Below W.heap.size W W' ∧ W'.cell? ⟨gw,0,none⟩ = some (.int .i64 (i : Int)) ∧ W'.cell? ⟨gw,1,none⟩ = some (.int .i64 (j : Int)) := fun s z hs hz W hW c0 c1 => by
        rw [hxi]
        refine (H81.out W hW s z x hs hz hxl).mono fun e W' ⟨e1,e2⟩ => ?_
        have hg : gw < W.heap.size := by
         rcases Nat.lt_or_ge gw W.heap.size with h | h
         ·exact h
         ·simp [World.cell?,Array.getElem?_eq_none h] at c0
        exact ⟨e1,hW.trans (e2.mono hW.size),e2,(e2.cell (p := ⟨gw,0,none⟩) hg).trans c0,(e2.cell (p := ⟨gw,1,none⟩) hg).trans c1⟩
       have CC := hid70 hcall
       have Hxx := hid70 (⟨hx,hxt,hxl⟩ : (lets 6)[t]? = some x ∧ x.toNat = 97 + t ∧ x ∈ lets 6)
       have ht103 : 97 + (t : Int) < 103 := by omega
       have henc : Utf8.encode (97 + (t : Int)) = ⟨#[x]⟩ := by rw [hxi]; exact enc_ascii (by omega)
       have hadd : (⟨part.toArray⟩ : ByteArray) ++ ⟨#[x]⟩ = ⟨(part ++ [x]).toArray⟩ := add_ascii
       have hpl63 : ¬ (9223372036854775807 < part.length + 1) := by omega
       clear q1 q2 q3 q4 q5 q6 q7 hcw hst hxi hcall hx hxt hxl hlt6
       have n0 := World.new_ne wr ⟨gw,0,none⟩ k0
       go_upto_region 10 with fail
       go_cut [13] (fun s13 wx => ∃ gp,s13 = .pointer (some ⟨gp,0,none⟩) ∧ wr.heap.size ≤ gp ∧ wr.grownBy wx none ∧ wx.heap[gp]? = some (.cells #[.int .i64 (nxI a i x),.int .i64 (nxI b j x)] 106))
       case first =>
        clear Hst Hxx henc hadd hpl63 HS hQlen HR
        go_region_held3 (fun w' => w'.cell? ⟨gw,0,none⟩ = some (.int .i64 (i : Int)) ∧ w'.cell? ⟨gw,1,none⟩ = some (.int .i64 (j : Int))) (first | go_keep | exact ⟨set_far bq6 ba3,set_far bq6 ba4⟩)
          (first | (go_at_call 81; refine (CC.out _ _ (by first | exact .inl rfl | exact .inr rfl) (by first | exact hij.1 | exact hij.2) _ (by first | exact Q4.out.drew | exact Q4.out.drew.alloc Q4.out.size _ | assumption | exact Below.alloc (by assumption) (Below.size (by assumption)) _) (by first | exact k0 | exact cell_al k0 | assumption | exact cell_al (by assumption)) (by first | exact k1 | exact cell_al k1 | assumption | exact cell_al (by assumption))).mono ?_; rintro e wa ⟨rfl,ba1,ba2,ba3,ba4⟩; first | (have bq := al_cells (v := .int .i64 (i : Int)) gw ba2 (by assumption); obtain ⟨bq1,bq2,bq3,bq4,bq5,bq6⟩ := bq; try dsimp only [World.drew] at bq1 bq2 bq3 bq4 bq5 bq6) | (have bq := al_cellsD (v := .int .i64 (i : Int)) gw ba2 (by assumption); obtain ⟨bq1,bq2,bq3,bq4,bq5,bq6⟩ := bq) | (have bq := al_keep ba2 bq1; obtain ⟨bq1,bq2,bq3,bq4,bq5⟩ := bq) | skip))
        all_goals (go_wp2_with fail; go_meet)
        ·exact ⟨_,rfl,out1 (by assumption) ba2⟩
        ·exact ⟨_,rfl,out2 (by assumption) ba2⟩
        ·exact ⟨_,rfl,out3 (by assumption) ba2⟩
       case rest =>
        obtain ⟨gp,rfl,hgp,hgr,hcp⟩ := hcut
        have hgwlt : gw < wr.heap.size := (Array.getElem?_eq_some_iff.1 Hcw.out).1
        have hSc : S70 w.heap.size a b u9 met' Q' w wc := S70.kept (w := wr) HS.out (by have := Q4.out.size; omega) hgr
        have hcwc := (hgr.block gw hgwlt (by simp)).trans Hcw.out
        have d2 : wc.cell? ⟨gw,2,none⟩ = some (.string ⟨part.toArray⟩) := by simp [World.cell?,hcwc]
        have e0 : wc.cell? ⟨gp,0,none⟩ = some (.int .i64 (nxI a i x)) := by simp [World.cell?,hcp]
        have e1 : wc.cell? ⟨gp,1,none⟩ = some (.int .i64 (nxI b j x)) := by simp [World.cell?,hcp]
        have HSc := hid70 hSc
        have Hcwc := hid70 hcwc
        have Hcp := hid70 hcp
        have Hgp := hid70 hgp
        clear HS Hcw Q4 CC hSc hcwc hcp k0 k1 n0 hgr hgp hgwlt H81
        rcases hna : nxN a i x with _ | p <;> rcases hnb : nxN b j x with _ | q
        ·have hX : nxI a i x = -1 := by unfold nxI; rw [hna]
         have hY : nxI b j x = -1 := by unfold nxI; rw [hnb]
         rw [hX] at e0
         rw [hY] at e1
         have Hst2 := hid70 ((stL_none Hxx.out.1 hna hnb).symm.trans Hst.out)
         clear hX hY hna hnb Hst
         go_wp2_with fail
         go_roundg g2
         case measure => omega
         case rel => exact ⟨t + 1,met',Q',by rw [show (97 : Int) + ((t + 1 : Nat) : Int) = 97 + (t : Int) + 1 by omega],by omega,by omega,HSc.out,Hne9.out,Hcwc.out,Hst2.out,hacc⟩
        ·have hX : nxI a i x = -1 := by unfold nxI; rw [hna]
         have hY : nxI b j x = (q : Int) := by unfold nxI; rw [hnb]
         have hq0' : ¬ (q : Int) < 0 := by omega
         rw [hX] at e0
         rw [hY] at e1
         have hres : bfs a b most 200 [(0,0)] [(0,0,[])] = some (part ++ [x]) := by rw [HR.out,← Hbf.out,bfs,if_pos hlen,← Hst.out,stL_out1 Hxx.out.1 hna hnb]
         have hfin : Post70 a b most w (.returned (.tuple #[.string ⟨(part ++ [x]).toArray⟩,.bool true])) wc := ⟨_,hres,rfl,by obtain ⟨_,_,_,_,_,hb,_⟩ := HSc.out; exact hb⟩
         have Hfin := hid70 hfin
         clear hres hfin hX hY hna hnb
         go_wp2_with fail
         go_ret2
         exact Hfin.out
        ·have hX : nxI a i x = (p : Int) := by unfold nxI; rw [hna]
         have hY : nxI b j x = -1 := by unfold nxI; rw [hnb]
         have hq0' : ¬ (p : Int) < 0 := by omega
         rw [hX] at e0
         rw [hY] at e1
         have hres : bfs a b most 200 [(0,0)] [(0,0,[])] = some (part ++ [x]) := by rw [HR.out,← Hbf.out,bfs,if_pos hlen,← Hst.out,stL_out2 Hxx.out.1 hna hnb]
         have hfin : Post70 a b most w (.returned (.tuple #[.string ⟨(part ++ [x]).toArray⟩,.bool true])) wc := ⟨_,hres,rfl,by obtain ⟨_,_,_,_,_,hb,_⟩ := HSc.out; exact hb⟩
         have Hfin := hid70 hfin
         clear hres hfin hX hY hna hnb
         go_wp2_with fail
         go_ret2
         exact Hfin.out
        ·have hX : nxI a i x = (p : Int) := by unfold nxI; rw [hna]
         have hY : nxI b j x = (q : Int) := by unfold nxI; rw [hnb]
         have hp0' : ¬ (p : Int) < 0 := by omega
         have hq0' : ¬ (q : Int) < 0 := by omega
         have hp1' : (0 : Int) ≤ (p : Int) := by omega
         rw [hX] at e0
         rw [hY] at e1
         have hcp2 := Hcp.out
         rw [hX,hY] at hcp2
         obtain ⟨mm,cc,r1,r2,r3,r4,r5,r6,r7,r8,r9⟩ := id HSc.out
         have hlk : (Instr.lookup 110 (.map (some (w.heap.size + 1))) (.agg #[.int .i64 (p : Int),.int .i64 (q : Int)]) false).run Try.prog wc = .ok (.bool (decide ((p,q) ∈ met'))) wc := by
          have h := alook_run r2 (look_m (kf := pV2) (vf := Value.bool) (l := mm) (k := ((p : Int),(q : Int))) (d := false) mty key_pair (by kernel_rfl) (fun _ => rfl) (ok := false))
          rw [r3 p q] at h
          exact h
         by_cases hmt : (p,q) ∈ met'
         ·rw [decide_eq_true hmt] at hlk
          have Hst2 := hid70 ((stL_met Hxx.out.1 hna hnb hmt).symm.trans Hst.out)
          clear hX hY hna hnb Hst hmt r1 r2 r3 r4 r5 r6 r7 r8 r9 hcp2 Hcp
          go_wp2_with fail
          go_roundg g2
          case measure => omega
          case rel => exact ⟨t + 1,met',Q',by rw [show (97 : Int) + ((t + 1 : Nat) : Int) = 97 + (t : Int) + 1 by omega],by omega,by omega,HSc.out,Hne9.out,Hcwc.out,Hst2.out,hacc⟩
         ·rw [decide_eq_false hmt] at hlk
          have hBw : w.heap.size + 1 < wc.heap.size := (Array.getElem?_eq_some_iff.1 r2).1
          have hgwB : gw ≠ w.heap.size + 1 := fun e => by
           have h := Hcwc.out
           rw [e,r2] at h
           cases h
          obtain ⟨gq,offq,capq,wd,gr,off',n',cap',w4,rfl,hins,f0,f1,hap,hS4,hgg,hkeep⟩ := push70 (s := part ++ [x]) HSc.out hBw ha hb hmt (nx_le hna) (nx_le hnb) hcp2 mty
          have hgwq : gw ≠ gq := fun e => Hne9.out (by rw [e]; rfl)
          have hgwl : gw < wc.heap.size := (Array.getElem?_eq_some_iff.1 Hcwc.out).1
          have Hcw4 := hid70 ((hkeep gw hgwl hgwB hgwq).trans Hcwc.out)
          have Hne4 := hid70 (show (Value.slice (some ⟨gr,off',none⟩) n' cap').ownBlock ≠ some gw from fun e => by
           have e2 : gr = gw := Option.some.inj e
           rcases hgg with h | h <;> omega)
          have HS4 := hid70 hS4
          have HAP := hid70 hap
          have Hst2 := hid70 ((stL_new Hxx.out.1 hna hnb hmt).symm.trans Hst.out)
          clear hX hY hna hnb Hst hmt r1 r2 r3 r4 r5 r6 r7 r8 r9 hcp2 Hcp hS4 hap hkeep hgg HSc Hcwc Hne9 hgwB hgwq hgwl hBw
          go_wp2_with (at_builtin; refine wpList_append_eq rfl _ _ 109 rfl _ _ _ _ rfl rfl HAP.out ?_)
          go_roundg g2
          case measure => omega
          case rel => exact ⟨t + 1,(p,q) :: met',Q' ++ [(p,q,part ++ [x])],by rw [show (97 : Int) + ((t + 1 : Nat) : Int) = 97 + (t : Int) + 1 by omega],by omega,by omega,HS4.out,Hne4.out,Hcw4.out,Hst2.out,by simp only [List.length_append,List.length_cons,List.length_nil]; omega⟩
      ·have e6 : t = 6 := by omega
       have hst6 := Hst.out
       rw [e6] at hst6
       have hend : bfs a b most g' met' Q' = R := by
        rw [← Hbf.out,bfs,if_pos hlen,← hst6,show (lets 6).drop 6 = [] from rfl,stL]
       have Hend := hid70 hend
       have Hm : Hid (121 - met'.length + Q'.length < g') := hid70 (by rw [List.length_cons] at hg; omega)
       have h103 : ¬ (97 + (t : Int) < 103) := by omega
       clear hend e6 hst6 Hst q1 q2 q3 q4 q5 q6 q7 hcw hst H81 HR
       go_wp2_with fail
       go_roundg g'
       case measure => omega
       case rel => exact ⟨met',Q',by first | exact HS.out | exact HS.out,Hend.out,Hm.out⟩
   ·have hres : bfs a b most 200 [(0,0)] [(0,0,[])] = none := by rw [HR.out,← Hbf.out,bfs,if_neg hlen]
    have hfin : Post70 a b most w (.returned (.tuple #[.string ⟨#[]⟩,.bool false])) wr := ⟨_,hres,rfl,Q4.out⟩
    have Hfin := hid70 hfin
    have hq0 : (0 : Int) < ((Q.length : Int) + 1) := by omega
    clear hres hfin H81
    go_wp2_with fail
    go_ret2
    exact Hfin.out
end Go.Proofs.Ytmnmfmghmenkkaa
set_option linter.unusedSimpArgs false
set_option linter.unusedVariables false
namespace Go.Proofs.Ytmnmfmghmenkkaa
open Go.RowKit Go.Abs Go.Pur
set_option maxRecDepth 1000000
theorem q68_law {w : List UInt8} {c : UInt8} {F : Nat} (hw : w.length ≤ 1000) (hF : w.length + 1 ≤ F) :
  (bhd w c = none → Q.f68S F (ints w) (c.toNat : Int) = some (-1)) ∧ ∀ w',bhd w c = some w' → ∃ j,j < w.length ∧ w' = w.drop (j + 1) ∧ Q.f68S F (ints w) (c.toNat : Int) = some (j : Int) := by
 have e : @Q.f68S = @f68S := by kernel_rfl
 rw [e]
 exact f68_law hw hF
theorem wr70 {z : Nat} (hz : z ≤ 1000) : IntKind.i64.wrap (z : Int) = z := by
 unfold IntKind.wrap
 simp [IntKind.bits,IntKind.signed]
 omega
theorem q81_law {w : List UInt8} {i : Nat} {c : UInt8} (hw : w.length ≤ 10) (hi : i ≤ w.length) : Q.f81S 100 w (i : Int) (c.toNat : Int) = some (nxI w i c) := by
 have hd : (w.drop i).length ≤ 10 := by rw [List.length_drop]; omega
 have hL := q68_law (w := w.drop i) (c := c) (F := 100) (by omega) (by omega)
 unfold Q.f81S
 rw [Option.bind_some,decide_eq_false (by omega)]
 dsimp only
 rw [subF_at hi,Option.bind_some,bytO_at (by omega),Option.bind_some,show ((w.drop i).map fun b => (b.toNat : Int)) = ints (w.drop i) from rfl]
 unfold nxI nxN
 cases hb : bhd (w.drop i) c with
 | none =>
  rw [hL.1 hb]
  rfl
 | some w' =>
  obtain ⟨j,hj,e1,e2⟩ := hL.2 w' hb
  rw [e2,Option.bind_some,Option.bind_some,decide_eq_false (by omega)]
  dsimp only [Option.map_some]
  rw [Option.bind_some,Option.bind_some]
  rw [List.length_drop] at hj
  rw [show ((i : Int) + (j : Int)) = ((i + j : Nat) : Int) by omega,wr70 (by omega),show (((i + j : Nat) : Int) + 1) = ((i + j + 1 : Nat) : Int) by omega,wr70 (by omega)]
  rw [e1,List.length_drop,List.length_drop]
  congr 1
  omega
theorem ok70 : FnOK Try.prog Y0 70 := by
 refine fnOK_lib e70 rfl (by kernel_rfl) (fun xs rs he m h w hR args hd => ?_)
 unfold e70 at he
 split at he
 ·rename_i s t most
  split at he
  ·rename_i hok
   cases he
   cases hd with
   | cons v a vs ks' k1 ht =>
   cases ht with
   | cons v2 a2 vs2 ks2 k2 ht2 =>
   cases ht2 with
   | cons v3 a3 vs3 ks3 k3 ht3 =>
   cases ht3
   cases k1
   cases k2
   cases k3
   simp only [Bool.and_eq_true,decide_eq_true_eq] at hok
   refine (differ_calls s.data.toList t.data.toList most w hok.1.1 hok.1.2 hok.2 (fun W hB x i c hx hi hc => ?_)).mono fun e w' hp => ?_
   ·have hxl : x.length ≤ 10 := by rcases hx with rfl | rfl <;> omega
    have h1 := Q.f81_is (hp := []) (q81_law (c := c) hxl hi)
    refine (pure_plain (Y := Q.Y0) (f := 81) (vs := [.string ⟨x.toArray⟩,.int .i64 (i : Int),.int .u8 (c.toNat : Int)]) (rs := [.int .i64 (nxI x i c)]) (by kernel_rfl) progFine (fun g hg => by cases hg) rfl (hR.below hB).1 rfl ?_ h1)
    intro v hv
    simp only [List.mem_cons,List.not_mem_nil,or_false] at hv
    rcases hv with rfl | rfl | rfl <;> exact ⟨rfl,fun n c e => by cases e⟩
   ·obtain ⟨R,e1,e2,e3⟩ := hp
    have e4 : bfs0 s.data.toList t.data.toList most = R := e1
    rw [e4]
    exact ⟨[.string ⟨(R.getD []).toArray⟩,.bool R.isSome],e2,e3,.cons _ _ _ _ (.p _) (.cons _ _ _ _ (.p _) .nil)⟩
  ·cases he
 ·cases he
end Go.Proofs.Ytmnmfmghmenkkaa
set_option linter.unusedSimpArgs false
set_option linter.unusedVariables false
namespace Go.Proofs.Ytmnmfmghmenkkaa
open Go.RowKit Go.Abs Go.Pur
set_option maxRecDepth 1000000
set_option maxHeartbeats 4000000
theorem func75_calls (v x : List UInt8) (g : Nat) (w : World) (hx : w.cell? ⟨g,0,none⟩ = some (.string ⟨x.toArray⟩))
  (h27 : Calls Try.prog 27 #[.string ⟨v.toArray⟩,.string ⟨x.toArray⟩] w fun e W' => e = .returned (.bool (leftW v x)) ∧ Below w.heap.size w W') :
  Calls Try.prog 75 #[.string ⟨v.toArray⟩,.pointer (some ⟨g,0,none⟩)] w fun e w' => e = .returned (.bool (leftW v x)) ∧ Below w.heap.size w w' := by
 have mixed : Try.prog.follows .mixedOrders = true := by kernel_rfl
 have H27 := hid70 h27
 clear h27
 go_enter Try.func75,Try.ntmps75
 go_wp2_with (go_at_call 27; refine H27.out.mono ?_; rintro e wa ⟨rfl,ba⟩)
 go_ret
 exact ⟨rfl,ba⟩
theorem func82_calls (vs : List (List UInt8)) (x : List UInt8) (b off cap g : Nat) (w : World) (hl : vs.length ≤ 1000) (hx : w.cell? ⟨g,0,none⟩ = some (.string ⟨x.toArray⟩))
  (hv : ∀ (j : Nat) v,vs[j]? = some v → w.cell? ⟨b,off + j,none⟩ = some (.string ⟨v.toArray⟩))
  (h27 : ∀ W,Below w.heap.size w W → ∀ v ∈ vs,Calls Try.prog 27 #[.string ⟨v.toArray⟩,.string ⟨x.toArray⟩] W fun e W' => e = .returned (.bool (leftW v x)) ∧ Below W.heap.size W W') :
  Calls Try.prog 82 #[.slice (some ⟨b,off,none⟩) vs.length cap,.func (.func 75) #[] #[.pointer (some ⟨g,0,none⟩)]] w fun e w' => ∃ z : Int,e = .returned (.int .i64 z) ∧ decide (0 ≤ z) = (vs.any fun v => leftW v x) ∧ Below w.heap.size w w' := by
 have mixed : Try.prog.follows .mixedOrders = true := by kernel_rfl
 have H27 := hid70 h27
 have Hx := hid70 hx
 have Hv := hid70 hv
 clear h27 hx hv
 go_enter Try.func82,Try.ntmps82
 go_wp2_with fail
 go_loopg [8] (vs.length + 1) (fun gk s8 wx => ∃ j : Nat,s8 = .int .i64 (j : Int) ∧ j ≤ vs.length ∧ vs.length < j + gk ∧ ((vs.take j).any fun v => leftW v x) = false ∧ Below w.heap.size w wx)
 case atStart => exact ⟨0,by first | rfl | simp,by omega,by omega,rfl,Below.refl _ _⟩
 case round =>
  obtain ⟨j,rfl,hj,hg,hno,hb⟩ := hrel
  obtain ⟨g2,rfl⟩ : ∃ g2,gk = g2 + 1 := ⟨gk - 1,by omega⟩
  by_cases hlt : j < vs.length
  ·obtain ⟨v,hvj⟩ : ∃ v,vs[j]? = some v := ⟨_,List.getElem?_eq_getElem hlt⟩
   have hc : wr.cell? ⟨b,off + j,none⟩ = some (.string ⟨v.toArray⟩) := (hb.cell (World.block_lt_of_cell? w _ (Hv.out j v hvj))).trans (Hv.out j v hvj)
   have hcx : wr.cell? ⟨g,0,none⟩ = some (.string ⟨x.toArray⟩) := (hb.cell (World.block_lt_of_cell? w _ Hx.out)).trans Hx.out
   have hcall := func75_calls v x g wr hcx (H27.out wr hb v (List.mem_of_getElem? hvj))
   have HC := hid70 hcall
   have Hb := hid70 hb
   have Hno := hid70 hno
   have Hvj := hid70 hvj
   clear hcall hcx hb hno hvj
   have hj1 : (0 : Int) ≤ (j : Int) := by omega
   have hj2 : (j : Int) < (vs.length : Int) := by omega
   have hjw : (j : Int) + 1 = ((j + 1 : Nat) : Int) := by omega
   have HJW := hid70 hjw
   clear hjw
   cases hlv : leftW v x with
   | true =>
    have hfin : ∃ z : Int,Ending.returned (.int .i64 (j : Int)) = .returned (.int .i64 z) ∧ decide (0 ≤ z) = (vs.any fun v => leftW v x) := ⟨j,rfl,by
     rw [decide_eq_true (by omega),eq_comm]
     exact List.any_eq_true.2 ⟨v,List.mem_of_getElem? Hvj.out,hlv⟩⟩
    have Hfin := hid70 hfin
    rw [hlv] at HC
    clear hfin hlv
    go_wp2_with (go_at_call 75; refine HC.out.mono ?_; rintro e wa ⟨rfl,ba⟩)
    go_ret
    obtain ⟨z,e1,e2⟩ := Hfin.out
    exact ⟨z,e1,e2,Hb.out.trans (ba.mono Hb.out.size)⟩
   | false =>
    have hno2 : ((vs.take (j + 1)).any fun v => leftW v x) = false := by
     rw [List.take_add_one,Hvj.out]
     simp [Hno.out,hlv]
    have Hno2 := hid70 hno2
    rw [hlv] at HC
    clear hno2 hlv
    go_wp2_with (go_at_call 75; refine HC.out.mono ?_; rintro e wa ⟨rfl,ba⟩)
    go_roundg g2
    case measure => omega
    case rel => exact ⟨j + 1,by rw [← HJW.out],by omega,by omega,Hno2.out,Hb.out.trans (ba.mono Hb.out.size)⟩
  ·obtain rfl : j = vs.length := by omega
   rw [List.take_length] at hno
   have Hno := hid70 hno
   have Hb := hid70 hb
   clear hno hb
   go_wp2_with fail
   go_ret
   exact ⟨-1,rfl,by rw [Hno.out]; rfl,Hb.out⟩
theorem func74_calls (vs : List (List UInt8)) (x : List UInt8) (b off cap g : Nat) (w : World) (hl : vs.length ≤ 1000) (hx : w.cell? ⟨g,0,none⟩ = some (.string ⟨x.toArray⟩))
  (hv : ∀ (j : Nat) v,vs[j]? = some v → w.cell? ⟨b,off + j,none⟩ = some (.string ⟨v.toArray⟩))
  (h27 : ∀ W,Below w.heap.size w W → ∀ v ∈ vs,Calls Try.prog 27 #[.string ⟨v.toArray⟩,.string ⟨x.toArray⟩] W fun e W' => e = .returned (.bool (leftW v x)) ∧ Below W.heap.size W W') :
  Calls Try.prog 74 #[.slice (some ⟨b,off,none⟩) vs.length cap,.func (.func 75) #[] #[.pointer (some ⟨g,0,none⟩)]] w fun e w' => e = .returned (.bool (vs.any fun v => leftW v x)) ∧ Below w.heap.size w w' := by
 have mixed : Try.prog.follows .mixedOrders = true := by kernel_rfl
 have H82 := hid70 (func82_calls vs x b off cap g w hl hx hv h27)
 clear h27 hx hv
 go_enter Try.func74,Try.ntmps74
 go_wp2_with (go_at_call 82; refine H82.out.mono ?_; rintro e wa ⟨z,rfl,hz,ba⟩; have hz := hid70 hz)
 go_ret
 exact ⟨by rw [← hz.out]; rfl,ba⟩
theorem func57_calls (vs : List (List UInt8)) (b off cap : Nat) (w : World) (hl : vs.length ≤ 1000)
  (hv : ∀ (j : Nat) v,vs[j]? = some v → w.cell? ⟨b,off + j,none⟩ = some (.string ⟨v.toArray⟩))
  (h25 : ∀ W,Below w.heap.size w W → ∀ v ∈ vs,Calls Try.prog 25 #[.string ⟨v.toArray⟩] W fun e W' => e = .returned (.int .i64 (checkW v)) ∧ Below W.heap.size W W') :
  Calls Try.prog 57 #[.slice (some ⟨b,off,none⟩) vs.length cap] w fun e w' => e = .returned (.int .i64 (chkL vs)) ∧ Below w.heap.size w w' := by
 have mixed : Try.prog.follows .mixedOrders = true := by kernel_rfl
 have H25 := hid70 h25
 have Hv := hid70 hv
 clear h25 hv
 go_enter Try.func57,Try.ntmps57
 go_wp2_with fail
 go_loopg [8] (vs.length + 1) (fun gk s8 wx => ∃ j : Nat,s8 = .int .i64 (j : Int) ∧ j ≤ vs.length ∧ vs.length < j + gk ∧ chkL (vs.drop j) = chkL vs ∧ Below w.heap.size w wx)
 case atStart => exact ⟨0,by first | rfl | simp,by omega,by omega,rfl,Below.refl _ _⟩
 case round =>
  obtain ⟨j,rfl,hj,hg,hno,hb⟩ := hrel
  obtain ⟨g2,rfl⟩ : ∃ g2,gk = g2 + 1 := ⟨gk - 1,by omega⟩
  by_cases hlt : j < vs.length
  ·obtain ⟨v,hvj⟩ : ∃ v,vs[j]? = some v := ⟨_,List.getElem?_eq_getElem hlt⟩
   have hc : wr.cell? ⟨b,off + j,none⟩ = some (.string ⟨v.toArray⟩) := (hb.cell (World.block_lt_of_cell? w _ (Hv.out j v hvj))).trans (Hv.out j v hvj)
   have hd : vs.drop j = v :: vs.drop (j + 1) := by
    obtain ⟨h1,h2⟩ := List.getElem?_eq_some_iff.1 hvj
    rw [List.drop_eq_getElem_cons h1,h2]
   have HC := hid70 (H25.out wr hb v (List.mem_of_getElem? hvj))
   rw [hd,chkL] at hno
   have Hb := hid70 hb
   have hj1 : (0 : Int) ≤ (j : Int) := by omega
   have hj2 : (j : Int) < (vs.length : Int) := by omega
   have HJW := hid70 (show (j : Int) + 1 = ((j + 1 : Nat) : Int) by omega)
   clear hb hvj hd
   by_cases hz : checkW v = 0
   ·rw [if_pos hz] at hno
    have Hno := hid70 hno
    rw [hz] at HC
    clear hno hz
    go_wp2_with (go_at_call 25; refine HC.out.mono ?_; rintro e wa ⟨rfl,ba⟩)
    go_roundg g2
    case measure => omega
    case rel => exact ⟨j + 1,by rw [← HJW.out],by omega,by omega,Hno.out,Hb.out.trans (ba.mono Hb.out.size)⟩
   ·rw [if_neg hz] at hno
    have Hno := hid70 hno
    clear hno
    go_wp2_with (go_at_call 25; refine HC.out.mono ?_; rintro e wa ⟨rfl,ba⟩)
    go_ret
    exact ⟨by rw [← Hno.out]; rfl,Hb.out.trans (ba.mono Hb.out.size)⟩
  ·obtain rfl : j = vs.length := by omega
   rw [List.drop_length] at hno
   have Hno := hid70 hno
   have Hb := hid70 hb
   clear hno hb
   go_wp2_with fail
   go_ret
   exact ⟨by rw [← Hno.out]; rfl,Hb.out⟩
end Go.Proofs.Ytmnmfmghmenkkaa
set_option linter.unusedSimpArgs false
set_option linter.unusedVariables false
namespace Go.Proofs.Ytmnmfmghmenkkaa
open Go.RowKit Go.Abs Go.Pur Go.Lib Go.Sort
set_option maxRecDepth 1000000
set_option maxHeartbeats 4000000
def Post44 (vs : List (List UInt8)) (i : Int) (w : World) (e : Ending) (w' : World) : Prop := e = .returned (.tuple #[.string ⟨(shortL vs i).1.toArray⟩,.int .i64 (shortL vs i).2]) ∧ Below w.heap.size w w'
theorem clone44 (vs : List (List UInt8)) (b off cap : Nat) (W : World) (hl : vs.length ≤ 1000) (hv : ∀ (j : Nat) v,vs[j]? = some v → W.cell? ⟨b,off + j,none⟩ = some (.string ⟨v.toArray⟩)) :
  Calls Try.prog 73 #[.slice (some ⟨b,off,none⟩) vs.length cap] W fun e W' => ∃ g cap2,e = .returned (.slice (some ⟨g,0,none⟩) vs.length cap2) ∧ W.heap.size ≤ g ∧ W'.ownsRow W.heap.size 9 1 (.slice (some ⟨g,0,none⟩) vs.length cap2) vs.length (vs.map encStr) ∧ Below W.heap.size W W' := by
 have h := Any.slices_Clone_string Try.lays16c b off vs.length cap (vs.map fun v => ⟨v.toArray⟩) W (by simp) (by omega) (fun j hj => by
  rw [List.length_map] at hj
  rw [hv j _ (List.getElem?_eq_getElem hj)]
  simp [List.getD,hj])
 refine h.mono fun e W' ⟨v',e1,e2,e3,e4⟩ => ?_
 have e5 : (((vs.map fun v => (⟨v.toArray⟩ : ByteArray)).take vs.length).map Value.string) = vs.map encStr := by
  rw [List.take_of_length_le (by simp),List.map_map]
  rfl
 rw [e5] at e2
 have e2' : W'.ownsRow W.heap.size 9 1 v' vs.length (vs.map encStr) := e2
 obtain ⟨g,cap2,rfl,q1,_⟩ := holds_of_ownsRow e2' e3
 exact ⟨g,cap2,e1,q1,e2',e4⟩
theorem del44 (vs : List (List UInt8)) (g cap2 base k : Nat) (W : World) (ho : W.ownsRow base 9 1 (.slice (some ⟨g,0,none⟩) vs.length cap2) vs.length (vs.map encStr)) (hk : k < vs.length) :
  Calls Try.prog 72 #[.slice (some ⟨g,0,none⟩) vs.length cap2,.int .i64 (k : Int),.int .i64 ((k : Int) + 1)] W fun e W' => e = .returned (.slice (some ⟨g,0,none⟩) (vs.length - 1) cap2) ∧
   W'.ownsRow base 9 1 (.slice (some ⟨g,0,none⟩) (vs.length - 1) cap2) (vs.length - 1) ((othL vs k).map encStr) ∧ W.grownBy W' (some g) := by
 obtain ⟨g',cap',e0,hb,hlt,hn,hm,hl,hH⟩ := holds_of_ownsRow ho (by simp)
 injection e0 with e1 e2 e3
 injection e1 with e1
 injection e1 with e1 _ _
 subst e1; subst e3
 have h := Any.slices_Delete_string Try.lays24c g 0 cap2 k (k + 1) vs W hH (by omega) (by unfold maxLen at hm; omega) (by omega) (by omega)
 refine h.mono fun e W' ⟨q1,q,q2⟩ => ?_
 subst q2
 have hw : (putRow encStr (Sort.ahead W q) g 0 (vs.take k ++ vs.drop (k + 1) ++ List.replicate (k + 1 - k) []).toArray).ownsRow base 9 1 (.slice (some ⟨g,0,none⟩) (vs.length - 1) cap2) (vs.length - 1) (((vs.take k ++ vs.drop (k + 1) ++ List.replicate (k + 1 - k) []).take (vs.length - 1)).map encStr) :=
  ownsRow_putRow ho (by simp only [List.length_append,List.length_take,List.length_drop,List.length_replicate]; omega) (by omega)
 have e5 : (vs.take k ++ vs.drop (k + 1) ++ List.replicate (k + 1 - k) ([] : List UInt8)).take (vs.length - 1) = othL vs k := by
  have hl2 : (vs.take k ++ vs.drop (k + 1)).length = vs.length - 1 := by simp only [List.length_append,List.length_take,List.length_drop]; omega
  rw [List.take_append_of_le_length (by omega),List.take_of_length_le (by omega)]
  rfl
 rw [e5] at hw
 refine ⟨by rw [q1]; congr 2; omega,hw,rfl,rfl,rfl,by simp [putRow,mapBlock,Sort.ahead],fun j hj hne => ?_⟩
 have hgj : g ≠ j := fun e => hne (by rw [e])
 simp [putRow,mapBlock,Sort.ahead,Array.getElem?_modify,hgj]
theorem wr44 {t : Nat} (h2 : (t : Int) + 1 ≤ 9223372036854775807) : RowKit.wrap64 ((t : Int) + 1) = (t : Int) + 1 := by
 unfold RowKit.wrap64
 omega
theorem find_at {R : Nat → List (List UInt8)} {pred : List UInt8 → Bool} {n r t : Nat} {p : List UInt8} (hr : r < n + 1) (h1 : ((List.range r).flatMap R).find? pred = none) (h2 : ((R r).take t).find? pred = none) (h3 : (R r)[t]? = some p) (h4 : pred p = true) :
  ((List.range (n + 1)).flatMap R).find? pred = some p := by
 obtain ⟨m,hm⟩ : ∃ m,n + 1 = r + (1 + m) := ⟨n - r,by omega⟩
 have e1 : (R r).find? pred = some p := by
  obtain ⟨q1,q2⟩ := List.getElem?_eq_some_iff.1 h3
  rw [← List.take_append_drop t (R r),List.find?_append,h2,List.drop_eq_getElem_cons q1,q2,List.find?_cons_of_pos h4]
  rfl
 rw [hm,List.range_add,List.flatMap_append,List.find?_append,h1,Nat.add_comm 1 m,List.range_succ_eq_map,List.map_cons,List.flatMap_cons,List.find?_append,Nat.add_zero,e1]
 rfl
theorem shortL_at {vs : List (List UInt8)} {k : Nat} {v : List UInt8} {R : Nat → List (List UInt8)} {pred : List UInt8 → Bool} (h8 : vs.length ≤ 8) (hch : chkL vs = 0) (hk : k < vs.length) (hvk : vs[k]? = some v) (hRe : srtT (v.length + 1) (allR v.length v) = R)
  (hPr : (fun p => !((othL vs k).any fun u => leftW u p)) = pred) : shortL vs (k : Int) = match ((List.range (v.length + 1)).flatMap R).find? pred with
   | some p => (p,0)
   | none => ([],12) := by
 unfold shortL
 rw [if_neg (by omega),if_neg (by rw [hch]; simp),if_neg (by omega)]
 have e1 : vs.getD (k : Int).toNat [] = v := by rw [Int.toNat_natCast,List.getD_eq_getElem?_getD,hvk]; rfl
 have e2 : ptsL v = (List.range (v.length + 1)).flatMap R := by
  unfold ptsL
  rw [← hRe,List.flatMap_def,List.flatMap_def]
  congr 1
  refine List.map_congr_left fun t ht => ?_
  unfold srtT
  rw [if_pos (List.mem_range.1 ht)]
 rw [e1,e2,Int.toNat_natCast,hPr]
 rfl
theorem short_calls (vs : List (List UInt8)) (b off cap : Nat) (i : Int) (w : World) (hl : vs.length ≤ 1000)
  (hv : ∀ (j : Nat) v,vs[j]? = some v → w.cell? ⟨b,off + j,none⟩ = some (.string ⟨v.toArray⟩))
  (h25 : ∀ W,Below w.heap.size w W → ∀ v ∈ vs,Calls Try.prog 25 #[.string ⟨v.toArray⟩] W fun e W' => e = .returned (.int .i64 (checkW v)) ∧ Below W.heap.size W W')
  (h27 : ∀ W,Below w.heap.size w W → ∀ v ∈ vs,∀ x : List UInt8,x.length ≤ 10 → Calls Try.prog 27 #[.string ⟨v.toArray⟩,.string ⟨x.toArray⟩] W fun e W' => e = .returned (.bool (leftW v x)) ∧ Below W.heap.size W W') :
  Calls Try.prog 44 #[.slice (some ⟨b,off,none⟩) vs.length cap,.int .i64 i] w fun e w' => Post44 vs i w e w' := by
 have mixed : Try.prog.follows .mixedOrders = true := by kernel_rfl
 have H25 := hid70 h25
 have H27 := hid70 h27
 have Hv := hid70 hv
 have H57 := hid70 (func57_calls vs b off cap w hl hv h25)
 clear h25 h27 hv
 by_cases h8 : (8 : Int) < (vs.length : Int)
 ·have hfin : Post44 vs i w (.returned (.tuple #[.string ⟨#[]⟩,.int .i64 3])) w := ⟨by unfold shortL; rw [if_pos (by omega)],Below.refl _ _⟩
  have Hfin := hid70 hfin
  clear hfin
  go_enter Try.func44,Try.ntmps44
  go_wp2_with fail
  go_ret2
  exact Hfin.out
 ·by_cases hch : chkL vs = 0
  ·rw [hch] at H57
   by_cases hi0 : i < 0
   ·have hfin : ∀ w',Below w.heap.size w w' → Post44 vs i w (.returned (.tuple #[.string ⟨#[]⟩,.int .i64 2])) w' := fun w' hb => ⟨by unfold shortL; rw [if_neg (by omega),if_neg (by rw [hch]; simp),if_pos (.inl hi0)],hb⟩
    have Hfin := hid70 hfin
    clear hfin hch
    go_enter Try.func44,Try.ntmps44
    go_wp2_with (go_at_call 57; refine H57.out.mono ?_; rintro e wa ⟨rfl,ba⟩)
    go_ret2
    exact Hfin.out _ ba
   ·by_cases hi1 : (vs.length : Int) ≤ i
    ·have hfin : ∀ w',Below w.heap.size w w' → Post44 vs i w (.returned (.tuple #[.string ⟨#[]⟩,.int .i64 2])) w' := fun w' hb => ⟨by unfold shortL; rw [if_neg (by omega),if_neg (by rw [hch]; simp),if_pos (.inr hi1)],hb⟩
     have Hfin := hid70 hfin
     clear hfin hch
     go_enter Try.func44,Try.ntmps44
     go_wp2_with (go_at_call 57; refine H57.out.mono ?_; rintro e wa ⟨rfl,ba⟩)
     go_ret2
     exact Hfin.out _ ba
    ·obtain ⟨k,rfl⟩ : ∃ k : Nat,i = k := ⟨i.toNat,by omega⟩
     have hk : k < vs.length := by omega
     obtain ⟨v,hvk⟩ : ∃ v,vs[k]? = some v := ⟨_,List.getElem?_eq_getElem hk⟩
     have hvm := List.mem_of_getElem? hvk
     have hv10 := (checkW_zero (chkL_zero hch v hvm)).1
     have hva := (checkW_zero (chkL_zero hch v hvm)).2
     have hck0 := Hv.out k v hvk
     have hbl : b < w.heap.size := World.block_lt_of_cell? w _ hck0
     have HCl : Hid (∀ W,Below w.heap.size w W → Calls Try.prog 73 #[.slice (some ⟨b,off,none⟩) vs.length cap] W fun e W' => ∃ g cap2,e = .returned (.slice (some ⟨g,0,none⟩) vs.length cap2) ∧ W.heap.size ≤ g ∧ W'.ownsRow W.heap.size 9 1 (.slice (some ⟨g,0,none⟩) vs.length cap2) vs.length (vs.map encStr) ∧ Below W.heap.size W W') :=
      hid70 fun W hW => clone44 vs b off cap W hl fun j u hu => (hW.cell (World.block_lt_of_cell? w _ (Hv.out j u hu))).trans (Hv.out j u hu)
     have HDl := hid70 (fun W base g cap2 ho => del44 vs g cap2 base k W ho hk)
     have Hck0 := hid70 hck0
     have hcell : ∀ (wa wb wc : World) (g : Nat),Below w.heap.size w wa → wa.heap.size ≤ g → Below wa.heap.size wa wb → wb.grownBy wc (some g) → wc.cell? ⟨b,off + k,none⟩ = some (.string ⟨v.toArray⟩) ∧ Below w.heap.size w wc := fun wa wb wc g h1 h2 h3 h4 => by
      have h5 : Below w.heap.size w wc := (h1.trans (h3.mono h1.size)).grown h4 (Nat.le_trans h1.size h3.size) (fun j hj => by cases hj; exact Nat.le_trans h1.size h2)
      exact ⟨(h5.cell hbl).trans Hck0.out,h5⟩
     have Hcell := hid70 hcell
     have HAll : Hid (∀ W,Calls Try.prog 61 #[.string ⟨v.toArray⟩] W fun e w' => ∃ V,e = .returned (.slice (some ⟨W.heap.size + 1,0,none⟩) (v.length + 1) (v.length + 1)) ∧ Below W.heap.size W w' ∧ RowsAt W.heap.size (W.heap.size + 1) v.length V (srtT (v.length + 1) (allR v.length v)) w') :=
      hid70 fun W => all_calls ⟨v.toArray⟩ W (show v.toArray.size ≤ 10 by simpa using hv10) (by simpa using hva)
     have Hvk := hid70 hvk
     have Hch := hid70 hch
     have Hva := hid70 hva
     have hk1 : (0 : Int) ≤ (k : Int) := by omega
     have hk2 : (k : Int) < (vs.length : Int) := by omega
     clear hcell hck0 hvk hva hch hbl Hck0
     go_enter Try.func44,Try.ntmps44
     go_wp2_with (first | (go_at_call 57; refine H57.out.mono ?_; rintro e wa ⟨rfl,ba⟩) | (go_at_call 73; refine (HCl.out _ ba).mono ?_; rintro e wb ⟨g,cap2,rfl,hgl,hown,bb⟩) | (go_at_call 72; refine (HDl.out _ _ _ _ hown).mono ?_; rintro e wc ⟨rfl,ho2,hg2⟩; have hcb := Hcell.out _ _ _ _ ba hgl bb hg2; obtain ⟨hck,bc⟩ := hcb) | (go_at_call 61; refine (HAll.out _).mono ?_; rintro e wd ⟨V,rfl,bd,hR⟩))
     obtain ⟨R,hRe⟩ : ∃ R,srtT (v.length + 1) (allR v.length v) = R := ⟨_,rfl⟩
     rw [hRe] at hR
     obtain ⟨pred,hpred⟩ : ∃ pred : List UInt8 → Bool,(fun p => !((othL vs k).any fun u => leftW u p)) = pred := ⟨_,rfl⟩
     have hol : (othL vs k).length = vs.length - 1 := by unfold othL; simp only [List.length_append,List.length_take,List.length_drop]; omega
     have hoth : ∀ W,Below wd.heap.size wd W → ∀ (j : Nat) u,(othL vs k)[j]? = some u → W.cell? ⟨g,0 + j,none⟩ = some (.string ⟨u.toArray⟩) := fun W hW j u hu => by
      have h1 := ho2.cells rfl j (encStr u) (by rw [List.getElem?_map,hu]; rfl)
      rw [Addr.add_lit] at h1
      have h2 := (bd.cell (World.block_lt_of_cell? wc _ h1)).trans h1
      exact (hW.cell (World.block_lt_of_cell? wd _ h2)).trans h2
     have hfall : ∀ W,Below wd.heap.size wd W → ∀ (gx : Nat) (p : List UInt8),p.length ≤ 10 → W.cell? ⟨gx,0,none⟩ = some (.string ⟨p.toArray⟩) →
       Calls Try.prog 74 #[.slice (some ⟨g,0,none⟩) (vs.length - 1) cap2,.func (.func 75) #[] #[.pointer (some ⟨gx,0,none⟩)]] W fun e w' => e = .returned (.bool (!pred p)) ∧ Below W.heap.size W w' := fun W hW gx p hp hx => by
      have hb2 : Below w.heap.size w W := (bc.trans (bd.mono bc.size)).trans (hW.mono (Nat.le_trans bc.size bd.size))
      have h := func74_calls (othL vs k) p g 0 cap2 gx W (by rw [hol]; omega) hx (fun j u hu => hoth W hW j u hu) (fun W' hW' u hu => H27.out W' (hb2.trans (hW'.mono hb2.size)) u (by
       unfold othL at hu
       rcases List.mem_append.1 hu with h | h
       ·exact List.mem_of_mem_take h
       ·exact List.mem_of_mem_drop h) p hp)
      rw [hol] at h
      rw [← hpred]
      simpa using h
     have HF := hid70 hfall
     have HRe := hid70 hRe
     have HPr := hid70 hpred
     have HR := hid70 hR
     have Hbd := hid70 bd
     have Hbc := hid70 bc
     clear hfall hoth hRe hpred hR bd bc ho2 hg2 hown bb ba hck HCl HDl Hcell HAll H57 H25 H27 hol
     go_loopg [40] (v.length + 2) (fun gk s40 wx => ∃ r : Nat,s40 = .int .i64 (r : Int) ∧ r ≤ v.length + 1 ∧ v.length + 1 < r + gk ∧ ((List.range r).flatMap R).find? pred = none ∧ Below wd.heap.size wd wx)
     case atStart => exact ⟨0,by first | rfl | simp,by omega,by omega,rfl,Below.refl _ _⟩
     case round =>
      obtain ⟨r,rfl,hr,hg,hno,hb⟩ := hrel
      obtain ⟨g2,rfl⟩ : ∃ g2,gk = g2 + 1 := ⟨gk - 1,by omega⟩
      by_cases hlt : r < v.length + 1
      ·have hcr : wr.cell? ⟨wc.heap.size + 1,r,none⟩ = some (V r) := (hb.cell (World.block_lt_of_cell? wd _ (HR.out.out.cell hlt))).trans (HR.out.out.cell hlt)
       have hr1 : (0 : Int) ≤ (r : Int) := by omega
       have hr2 : (r : Int) < (v.length : Int) + 1 := by omega
       have HJ := hid70 (show (r : Int) + 1 = ((r + 1 : Nat) : Int) by omega)
       have Hb := hid70 hb
       have Hno := hid70 hno
       have hsucc : (List.range (r + 1)).flatMap R = (List.range r).flatMap R ++ R r := by rw [List.range_succ,List.flatMap_append]; simp
       have Hsucc := hid70 hsucc
       have hplen : ∀ p ∈ R r,p.length ≤ 10 := fun p hp => by have := HR.out.len r hlt p hp; omega
       have Hpl := hid70 hplen
       clear hb hno hsucc hplen
       rcases hRe0 : R r with _ | ⟨p0,ps⟩
       ·have hVn : V r = .slice none 0 0 := HR.out.emp r hlt hRe0
        rw [hVn] at hcr
        have Hno2 : Hid (((List.range (r + 1)).flatMap R).find? pred = none) := hid70 (by rw [Hsucc.out,hRe0,List.append_nil]; exact Hno.out)
        clear hVn hRe0
        go_wp2_with fail
        go_loopg [46] 1 (fun gk2 s46 wx => s46 = .int .i64 0 ∧ 0 < gk2 ∧ Below wd.heap.size wd wx)
        case atStart => exact ⟨by first | rfl | simp,by omega,Hb.out⟩
        case round =>
         obtain ⟨rfl,h1,h2⟩ := hrel
         have Hb2 := hid70 h2
         clear h2
         go_wp2_with fail
         go_roundg g2
         case measure => omega
         case rel => exact ⟨r + 1,by rw [← HJ.out],by omega,by omega,Hno2.out,Hb2.out⟩
       ·have hne : (R r).length ≠ 0 := by rw [hRe0]; simp
        obtain ⟨gr,capr,cur,hVs,z1,z2,hn1,hn2,z3⟩ := own_some (HR.out.row r hlt) hne
        have Hn12 : Hid ((R r).length ≤ 9223372036854775807) := hid70 (Nat.le_trans hn1 hn2)
        have hcells : ∀ (j : Nat) p,(R r)[j]? = some p → wd.cell? ⟨gr,j,none⟩ = some (.string ⟨p.toArray⟩) := fun j p hp => by
         have h1 := (HR.out.row r hlt).cells (g := gr) (by rw [hVs]; rfl) j (encStr p) (by rw [List.getElem?_map,hp]; rfl)
         rw [Addr.add_lit,Nat.zero_add] at h1
         exact h1
        have Hcells := hid70 hcells
        rw [hVs] at hcr
        clear hVs hcells hne hRe0 hn1 hn2 z1 z2 z3
        go_wp2_with fail
        go_loopg [46] ((R r).length + 1) (fun gk2 s46 wx => ∃ t : Nat,s46 = .int .i64 (t : Int) ∧ t ≤ (R r).length ∧ (R r).length < t + gk2 ∧ ((R r).take t).find? pred = none ∧ Below wd.heap.size wd wx)
        case atStart => exact ⟨0,by first | rfl | simp,by omega,by omega,rfl,Hb.out⟩
        case round =>
         clear Hb
         obtain ⟨t,rfl,ht,htg,hnt,hb⟩ := hrel
         obtain ⟨g3,rfl⟩ : ∃ g3,gk = g3 + 1 := ⟨gk - 1,by omega⟩
         by_cases htl : t < (R r).length
         ·obtain ⟨p,hpt⟩ : ∃ p,(R r)[t]? = some p := ⟨_,List.getElem?_eq_getElem htl⟩
          have hcp : wr.cell? ⟨gr,t,none⟩ = some (.string ⟨p.toArray⟩) := (hb.cell (World.block_lt_of_cell? wd _ (Hcells.out t p hpt))).trans (Hcells.out t p hpt)
          have ht1 : (0 : Int) ≤ (t : Int) := by omega
          have ht2 : (t : Int) < ((R r).length : Int) := by omega
          have HJ3 := hid70 (show (t : Int) + 1 = ((t + 1 : Nat) : Int) by omega)
          have hw64 : Hid (RowKit.wrap64 ((t : Int) + 1) = (t : Int) + 1) := by
           have h1 := Hn12.out
           have h2 : (t : Int) + 1 ≤ 9223372036854775807 := by omega
           have h3 : (-9223372036854775808 : Int) ≤ (t : Int) + 1 := by omega
           exact hid70 (wr44 h2)
          have hbW : Below wd.heap.size wd (wr.alloc (.cells #[.string ⟨p.toArray⟩] 9)) := hb.alloc hb.size _
          have hxW : (wr.alloc (.cells #[.string ⟨p.toArray⟩] 9)).cell? ⟨wr.heap.size,0,none⟩ = some (.string ⟨p.toArray⟩) := by
           have e : (wr.alloc (.cells #[.string ⟨p.toArray⟩] 9)).heap[wr.heap.size]? = _ := heap_alloc_new wr _
           simp only [World.cell?,e]
           rfl
          have HC := hid70 (HF.out _ hbW wr.heap.size p (Hpl.out p (List.mem_of_getElem? hpt)) hxW)
          have HbW := hid70 hbW
          have HxW := hid70 hxW
          have Hb := hid70 hb
          have Hnt := hid70 hnt
          have Hpt := hid70 hpt
          clear hb hnt hpt hbW hxW
          cases hpp : pred p with
          | true =>
           rw [hpp] at HC
           have hfin : ∀ W,Below (wr.alloc (.cells #[.string ⟨p.toArray⟩] 9)).heap.size (wr.alloc (.cells #[.string ⟨p.toArray⟩] 9)) W → Post44 vs (k : Int) w (.returned (.tuple #[.string ⟨p.toArray⟩,.int .i64 0])) W ∧ W.cell? ⟨wr.heap.size,0,none⟩ = some (.string ⟨p.toArray⟩) := fun W hW =>
            ⟨⟨by rw [shortL_at (by omega) Hch.out hk Hvk.out HRe.out HPr.out,find_at hlt Hno.out Hnt.out Hpt.out hpp],(Hbc.out.trans (Hbd.out.mono Hbc.out.size)).trans ((HbW.out.trans (hW.mono HbW.out.size)).mono (Nat.le_trans Hbc.out.size Hbd.out.size))⟩,(hW.cell (World.block_lt_of_cell? _ _ HxW.out)).trans HxW.out⟩
           have Hfin := hid70 hfin
           clear hfin hpp
           go_wp2_with (go_at_call 74; refine HC.out.mono ?_; rintro e wx ⟨rfl,bx⟩; have hcx := (Hfin.out _ bx).2)
           go_ret2
           exact (Hfin.out _ bx).1
          | false =>
           rw [hpp] at HC
           have Hnt2 : Hid (((R r).take (t + 1)).find? pred = none) := hid70 (by
            rw [List.take_add_one,Hpt.out,List.find?_append,Hnt.out]
            simp [hpp])
           clear hpp
           go_wp2_with (go_at_call 74; refine HC.out.mono ?_; rintro e wx ⟨rfl,bx⟩)
           go_roundg g3
           case measure => omega
           case rel => exact ⟨t + 1,by rw [← HJ3.out,hw64.out],by omega,by omega,Hnt2.out,HbW.out.trans (bx.mono HbW.out.size)⟩
         ·obtain rfl : t = (R r).length := by omega
          rw [List.take_length] at hnt
          have Hno2 : Hid (((List.range (r + 1)).flatMap R).find? pred = none) := hid70 (by rw [Hsucc.out,List.find?_append,Hno.out,hnt]; rfl)
          have Hb := hid70 hb
          clear hnt hb
          go_wp2_with fail
          go_roundg g2
          case measure => omega
          case rel => exact ⟨r + 1,by rw [← HJ.out],by omega,by omega,Hno2.out,Hb.out⟩
      ·obtain rfl : r = v.length + 1 := by omega
       have hsh : shortL vs (k : Int) = ([],12) := by
        rw [shortL_at (by omega) Hch.out hk Hvk.out HRe.out HPr.out,hno]
       have hfin : Post44 vs (k : Int) w (.returned (.tuple #[.string ⟨#[]⟩,.int .i64 12])) wr := ⟨by rw [hsh],(Hbc.out.trans (Hbd.out.mono Hbc.out.size)).trans (hb.mono (Nat.le_trans Hbc.out.size Hbd.out.size))⟩
       have Hfin := hid70 hfin
       clear hfin hsh hno hb
       go_wp2_with fail
       go_ret2
       exact Hfin.out
  ·have hfin : ∀ w',Below w.heap.size w w' → Post44 vs i w (.returned (.tuple #[.string ⟨#[]⟩,.int .i64 (chkL vs)])) w' := fun w' hb => ⟨by unfold shortL; rw [if_neg (by omega),if_pos hch],hb⟩
   have Hfin := hid70 hfin
   clear hfin
   go_enter Try.func44,Try.ntmps44
   go_wp2_with (go_at_call 57; refine H57.out.mono ?_; rintro e wa ⟨rfl,ba⟩)
   go_ret2
   exact Hfin.out _ ba
end Go.Proofs.Ytmnmfmghmenkkaa
set_option linter.unusedSimpArgs false
set_option linter.unusedVariables false
namespace Go.Proofs.Ytmnmfmghmenkkaa
open Go.Abs Go.Pur
theorem bs_toList {l : List UInt8} : (bs l).toList = l := by rw [ByteArray.toList_eq]
theorem abin_slss {P : Program} {t : TypeId} {x y : Operand} {a b : List UInt8} : abin P .lss t x y (.string (bs a)) (.string (bs b)) = some (.bool (Op.bytesLess a b)) :=
 abinS_str (by simp [eqGuard,binOp,Op.stringOp,bs_toList]; rfl) rfl
theorem beq_emp {α : Type} {l : List α} (h : l.isEmpty = false) : Nat.beq l.length 0 = false := by cases l with
 | nil => cases h
 | cons a l => rfl
end Go.Proofs.Ytmnmfmghmenkkaa
set_option linter.unusedSimpArgs false
set_option linter.unusedVariables false
namespace Go.Proofs.Ytmnmfmghmenkkaa
set_option maxRecDepth 100000
def pos (w : List UInt8) : Nat → List UInt8 → Option Nat
 | i,[] => some i
 | i,c :: q => (nxN w i c).bind fun k => pos w k q
theorem pos_app {w u v : List UInt8} : ∀ {i : Nat},pos w i (u ++ v) = (pos w i u).bind fun k => pos w k v := by
 induction u with
 | nil => intro i; rfl
 | cons c u ih =>
  intro i
  simp only [List.cons_append,pos]
  cases nxN w i c with
  | none => rfl
  | some k => exact ih
theorem bhd_drop {c : UInt8} : ∀ {l w' : List UInt8},bhd l c = some w' → ∃ k,w' = l.drop k
 | [],_,h => by cases h
 | x :: l,w',h => by
  unfold bhd at h
  split at h
  ·cases h; exact ⟨1,rfl⟩
  ·obtain ⟨k,e⟩ := bhd_drop h
   exact ⟨k + 1,e⟩
theorem pos_left {w q : List UInt8} : ∀ {i : Nat},leftW (w.drop i) q = (pos w i q).isSome := by
 induction q with
 | nil => intro i; rw [pos]; cases w.drop i <;> rfl
 | cons c q ih =>
  intro i
  rw [bhd_left,pos]
  unfold nxN
  cases hb : bhd (w.drop i) c with
  | none => rfl
  | some w' =>
   obtain ⟨k,e⟩ := bhd_drop hb
   rw [List.drop_drop] at e
   have e2 : w' = w.drop (w.length - w'.length) := by
    have hl : w'.length = w.length - (i + k) := by rw [e,List.length_drop]
    by_cases h : i + k ≤ w.length
    ·rw [hl,show w.length - (w.length - (i + k)) = i + k by omega]; exact e
    ·have h0 : w' = [] := List.eq_nil_of_length_eq_zero (by omega)
     rw [h0]; simp
   show leftW w' q = (pos w (w.length - w'.length) q).isSome
   rw [← ih,← e2]
theorem pos0 {w q : List UInt8} : leftW w q = (pos w 0 q).isSome := pos_left (i := 0)
def Tel (a b q : List UInt8) : Prop := (pos a 0 q).isSome ≠ (pos b 0 q).isSome
theorem tel_left {a b q : List UInt8} : Tel a b q ↔ leftW a q ≠ leftW b q := by unfold Tel; rw [pos0,pos0]
theorem lt_app {x y : List UInt8} : ∀ {u v : List UInt8},u.length = v.length → u < v → u ++ x < v ++ y
 | [],[],_,h => absurd h (List.lt_irrefl _)
 | [],_ :: _,h,_ => by cases h
 | _ :: _,[],h,_ => by cases h
 | a :: u,b :: v,hl,h => by
  rcases List.cons_lt_cons_iff.1 h with h | ⟨e,h⟩
  ·exact List.cons_lt_cons_iff.2 (.inl h)
  ·exact List.cons_lt_cons_iff.2 (.inr ⟨e,lt_app (by simpa using hl) h⟩)
theorem slt_app {u v x y : List UInt8} (h : slt u v) (hl : x.length = y.length) : slt (u ++ x) (v ++ y) := by
 rcases h with h | ⟨h1,h2⟩
 ·exact .inl (by simp only [List.length_append]; omega)
 ·exact .inr ⟨by simp only [List.length_append]; omega,lt_app h1 h2⟩
theorem lt_last {c d : UInt8} (h : c < d) : ∀ {u : List UInt8},u ++ [c] < u ++ [d]
 | [] => List.cons_lt_cons_iff.2 (.inl h)
 | a :: u => List.cons_lt_cons_iff.2 (.inr ⟨rfl,lt_last h⟩)
theorem slt_last {c d : UInt8} {u : List UInt8} (h : c < d) : slt (u ++ [c]) (u ++ [d]) := .inr ⟨by simp,lt_last h⟩
theorem slt_len {u v : List UInt8} (h : slt u v) : u.length ≤ v.length := by rcases h with h | ⟨h,_⟩ <;> omega
theorem slt_take {p r : List UInt8} {k : Nat} (hk : k < p.length) (h : slt r (p.take (k + 1))) : slt r p := by
 rcases Nat.lt_or_ge (k + 1) p.length with h1 | h1
 ·exact slt_trans h (.inl (by rw [List.length_take]; omega))
 ·rwa [List.take_of_length_le h1] at h
theorem take_succ' {p : List UInt8} {k : Nat} (hk : k < p.length) : p.take (k + 1) = p.take k ++ [p[k]] := by rw [List.take_succ_eq_append_getElem hk]
section
variable {a b p : List UInt8}
structure I0 (a b : List UInt8) (M : List (Nat × Nat)) (Q : List Way) (Ls : List (List UInt8)) : Prop where
 pa : ∀ e ∈ Q,pos a 0 e.2.2 = some e.1 ∧ pos b 0 e.2.2 = some e.2.1 ∧ e.2.2 ∈ Ls
 so : Q.Pairwise fun e f => slt e.2.2 f.2.2
 lb : ∀ m ∈ M,∃ L ∈ Ls,pos a 0 L = some m.1 ∧ pos b 0 L = some m.2
 le : ∀ L ∈ Ls,∀ f ∈ Q,∀ c,slt L (f.2.2 ++ [c])
 nd : M.Nodup
 bd : ∀ m ∈ M,m.1 ≤ 10 ∧ m.2 ≤ 10
def J3 (p : List UInt8) (Q : List Way) : Prop := ∃ k,k < p.length ∧ ∃ e ∈ Q,e.2.2 = p.take k
theorem inn (ha : a.length ≤ 10) (hb : b.length ≤ 10) (ht : Tel a b p) (hmin : ∀ q,Tel a b q → ¬ slt q p) (hpl : ∀ c ∈ p,c ∈ lets 6) {i j : Nat} {s : List UInt8} (hsa : pos a 0 s = some i) (hsb : pos b 0 s = some j) : ∀ {cs : List UInt8} {M : List (Nat × Nat)} {Q : List Way} {Ls : List (List UInt8)},
  I0 a b M Q Ls → (∀ L ∈ Ls,∀ c ∈ cs,slt L (s ++ [c])) → (∀ f ∈ Q,slt s f.2.2 ) → cs.Pairwise (· < ·) → (J3 p Q ∨ ∃ k,∃ hk : k < p.length,s = p.take k ∧ p[k] ∈ cs) →
  match stL a b i j s cs M Q with
  | (some r,_,_) => r = p
  | (none,M',Q') => ∃ Ls',I0 a b M' Q' Ls' ∧ J3 p Q' ∧ Q'.length + M.length = Q.length + M'.length := by
 intro cs
 induction cs with
 | nil =>
  intro M Q Ls h _ _ _ hj
  rcases hj with hj | ⟨k,_,_,h2⟩
  ·exact ⟨Ls,h,hj,rfl⟩
  ·cases h2
 | cons c cs ih =>
  intro M Q Ls h he hf hg hj
  have hg1 := (List.pairwise_cons.1 hg).1
  have hg2 := (List.pairwise_cons.1 hg).2
  have hra : pos a 0 (s ++ [c]) = nxN a i c := by
   rw [pos_app,hsa]
   show (nxN a i c).bind _ = _
   cases nxN a i c <;> rfl
  have hrb : pos b 0 (s ++ [c]) = nxN b j c := by
   rw [pos_app,hsb]
   show (nxN b j c).bind _ = _
   cases nxN b j c <;> rfl
  have hret : Tel a b (s ++ [c]) → s ++ [c] = p := fun htr => by
   have hm := hmin _ htr
   rcases hj with ⟨k,hk,e,heQ,hek⟩ | ⟨k,hk,e1,e2⟩
   ·exfalso
    have h1 := hf e heQ
    rw [hek] at h1
    exact hm (slt_take hk (by rw [take_succ' hk]; exact slt_app h1 rfl))
   ·rcases List.mem_cons.1 e2 with e2 | e2
    ·have h1 : s ++ [c] = p.take (k + 1) := by rw [take_succ' hk,e1,e2]
     rcases Nat.lt_or_ge (k + 1) p.length with h2 | h2
     ·exfalso
      exact hm (.inl (by rw [h1,List.length_take]; omega))
     ·rw [h1,List.take_of_length_le h2]
    ·exfalso
     exact hm (slt_take hk (by rw [take_succ' hk,e1]; exact slt_last (hg1 _ e2)))
  have hskip : (nxN a i c = none ∧ nxN b j c = none) ∨ (∃ x y,nxN a i c = some x ∧ nxN b j c = some y ∧ (x,y) ∈ M) → (J3 p Q ∨ ∃ k,∃ hk : k < p.length,s = p.take k ∧ p[k] ∈ cs) := fun hc => by
   rcases hj with hj | ⟨k,hk,e1,e2⟩
   ·exact .inl hj
   ·rcases List.mem_cons.1 e2 with e2 | e2
    ·exfalso
     have hp : p = (s ++ [c]) ++ p.drop (k + 1) := by
      rw [e1,← e2,← take_succ' hk,List.take_append_drop]
     rcases hc with ⟨n1,n2⟩ | ⟨x,y,n1,n2,hm⟩
     ·apply ht
      rw [hp,pos_app,pos_app (w := b),hra,hrb,n1,n2]
      rfl
     ·obtain ⟨L,hL,l1,l2⟩ := h.lb _ hm
      have hs : slt L (s ++ [c]) := he L hL c List.mem_cons_self
      refine hmin (L ++ p.drop (k + 1)) ?_ ?_
      ·have ht2 := ht
       unfold Tel at ht2 ⊢
       rw [hp,pos_app,pos_app (w := b),hra,hrb,n1,n2] at ht2
       rw [pos_app,pos_app (w := b),l1,l2]
       simpa using ht2
      ·have := slt_app hs (rfl : (p.drop (k + 1)).length = (p.drop (k + 1)).length)
       rwa [← hp] at this
    ·exact .inr ⟨k,hk,e1,e2⟩
  have he' : ∀ L ∈ Ls,∀ d ∈ cs,slt L (s ++ [d]) := fun L hL d hd => he L hL d (List.mem_cons_of_mem _ hd)
  rw [stL]
  rcases hna : nxN a i c with _ | x <;> rcases hnb : nxN b j c with _ | y
  ·exact ih h he' hf hg2 (hskip (.inl ⟨hna,hnb⟩))
  ·exact hret (by unfold Tel; rw [hra,hrb,hna,hnb]; simp)
  ·exact hret (by unfold Tel; rw [hra,hrb,hna,hnb]; simp)
  ·dsimp only
   by_cases hm : (x,y) ∈ M
   ·rw [if_pos hm]
    exact ih h he' hf hg2 (hskip (.inr ⟨x,y,hna,hnb,hm⟩))
   ·rw [if_neg hm]
    have hnew : I0 a b ((x,y) :: M) (Q ++ [(x,y,s ++ [c])]) ((s ++ [c]) :: Ls) := by
     refine ⟨fun e he1 => ?_, ?_,fun m hm1 => ?_,fun L hL f hf1 d => ?_,List.nodup_cons.2 ⟨hm,h.nd⟩,fun m hm1 => ?_⟩
     ·rcases List.mem_append.1 he1 with h1 | h1
      ·obtain ⟨q1,q2,q3⟩ := h.pa e h1
       exact ⟨q1,q2,List.mem_cons_of_mem _ q3⟩
      ·rw [List.mem_singleton.1 h1]
       exact ⟨by rw [← hna]; exact hra,by rw [← hnb]; exact hrb,List.mem_cons_self⟩
     ·rw [List.pairwise_append]
      refine ⟨h.so,List.pairwise_singleton _ _,fun e h1 f h2 => ?_⟩
      rw [List.mem_singleton.1 h2]
      exact he _ (h.pa e h1).2.2 c List.mem_cons_self
     ·rcases List.mem_cons.1 hm1 with rfl | hm1
      ·exact ⟨s ++ [c],List.mem_cons_self,by rw [← hna]; exact hra,by rw [← hnb]; exact hrb⟩
      ·obtain ⟨L,hL,q1,q2⟩ := h.lb m hm1
       exact ⟨L,List.mem_cons_of_mem _ hL,q1,q2⟩
     ·rcases List.mem_cons.1 hL with rfl | hL
      ·rcases List.mem_append.1 hf1 with h1 | h1
       ·exact slt_app (hf f h1) rfl
       ·rw [List.mem_singleton.1 h1]
        exact .inl (by simp)
      ·rcases List.mem_append.1 hf1 with h1 | h1
       ·exact h.le L hL f h1 d
       ·rw [List.mem_singleton.1 h1]
        exact slt_trans (he L hL c List.mem_cons_self) (.inl (by simp))
     ·rcases List.mem_cons.1 hm1 with rfl | hm1
      ·have := nx_le hna
       have := nx_le hnb
       exact ⟨by simp only; omega,by simp only; omega⟩
      ·exact h.bd m hm1
    have hj' : J3 p (Q ++ [(x,y,s ++ [c])]) ∨ ∃ k,∃ hk : k < p.length,s = p.take k ∧ p[k] ∈ cs := by
     rcases hj with ⟨k,hk,e,h1,h2⟩ | ⟨k,hk,e1,e2⟩
     ·exact .inl ⟨k,hk,e,List.mem_append_left _ h1,h2⟩
     ·rcases List.mem_cons.1 e2 with e2 | e2
      ·left
       have h1 : s ++ [c] = p.take (k + 1) := by rw [take_succ' hk,e1,e2]
       rcases Nat.lt_or_ge (k + 1) p.length with h2 | h2
       ·exact ⟨k + 1,h2,_,List.mem_append_right _ (List.mem_singleton.2 rfl),h1⟩
       ·exfalso
        rw [List.take_of_length_le h2] at h1
        apply ht
        rw [← h1,hra,hrb,hna,hnb]
        rfl
      ·exact .inr ⟨k,hk,e1,e2⟩
    have := ih hnew (fun L hL d hd => by
     rcases List.mem_cons.1 hL with rfl | hL
     ·exact slt_last (hg1 d hd)
     ·exact he' L hL d hd) (fun f hf1 => by
     rcases List.mem_append.1 hf1 with h1 | h1
     ·exact hf f h1
     ·rw [List.mem_singleton.1 h1]
      exact .inl (by simp)) hg2 hj'
    revert this
    generalize stL a b i j s cs ((x,y) :: M) (Q ++ [(x,y,s ++ [c])]) = R
    obtain ⟨r,M',Q'⟩ := R
    cases r with
    | some r => exact fun h => h
    | none =>
     rintro ⟨Ls',q1,q2,q3⟩
     refine ⟨Ls',q1,q2, ?_⟩
     simp only [List.length_append,List.length_cons,List.length_nil] at q3
     omega
theorem lets6_sorted : (lets 6).Pairwise (· < ·) := by decide
theorem bfs_p (ha : a.length ≤ 10) (hb : b.length ≤ 10) (ht : Tel a b p) (hmin : ∀ q,Tel a b q → ¬ slt q p) (hpl : ∀ c ∈ p,c ∈ lets 6) {most : Int} (hmost : (p.length : Int) ≤ most) : ∀ {n : Nat} {M : List (Nat × Nat)} {Q : List Way} {Ls : List (List UInt8)},
  I0 a b M Q Ls → J3 p Q → 121 - M.length + Q.length < n → bfs a b most n M Q = some p := by
 intro n
 induction n with
 | zero => intro M Q Ls _ _ h; omega
 | succ n ih =>
  intro M Q Ls h hj hn
  cases Q with
  | nil => obtain ⟨k,_,e,he,_⟩ := hj; cases he
  | cons e Q =>
   obtain ⟨i,j,s⟩ := e
   have hso := List.pairwise_cons.1 h.so
   obtain ⟨hsa,hsb,hsL⟩ := h.pa _ List.mem_cons_self
   have hlen : (s.length : Int) < most := by
    obtain ⟨k,hk,e,he,h2⟩ := hj
    have hkl : (p.take k).length = k := by rw [List.length_take]; omega
    rcases List.mem_cons.1 he with rfl | he
    ·simp only at h2
     rw [← h2] at hkl
     omega
    ·have := slt_len (hso.1 e he)
     rw [h2,hkl] at this
     simp only at this
     omega
   rw [bfs,if_pos hlen]
   have h0 : I0 a b M Q Ls := ⟨fun e he => h.pa e (List.mem_cons_of_mem _ he),hso.2,h.lb,fun L hL f hf => h.le L hL f (List.mem_cons_of_mem _ hf),h.nd,h.bd⟩
   have := inn ha hb ht hmin hpl hsa hsb (cs := lets 6) h0 (fun L hL c _ => h.le L hL _ List.mem_cons_self c) (fun f hf => hso.1 f hf) lets6_sorted (by
    obtain ⟨k,hk,e,he,h2⟩ := hj
    rcases List.mem_cons.1 he with rfl | he
    ·exact .inr ⟨k,hk,h2,hpl _ (List.getElem_mem hk)⟩
    ·exact .inl ⟨k,hk,e,he,h2⟩)
   revert this
   generalize stL a b i j s (lets 6) M Q = R
   obtain ⟨r,M',Q'⟩ := R
   cases r with
   | some r => intro h; show some r = _; rw [show r = p from h]
   | none =>
    rintro ⟨Ls',q1,q2,q3⟩
    refine ih q1 q2 ?_
    have := pairs_len q1.nd q1.bd
    simp only [List.length_cons] at hn
    omega
theorem bfs_first (ha : a.length ≤ 10) (hb : b.length ≤ 10) (ht : Tel a b p) (hmin : ∀ q,Tel a b q → ¬ slt q p) (hpl : ∀ c ∈ p,c ∈ lets 6) {most : Int} (hmost : (p.length : Int) ≤ most) : bfs0 a b most = some p := by
 have hp : 0 < p.length := by
  rcases p with _ | ⟨c,p⟩
  ·exact absurd rfl ht
  ·simp
 refine bfs_p ha hb ht hmin hpl hmost (Ls := [[]]) ⟨fun e he => ?_,List.pairwise_singleton _ _,fun m hm => ?_,fun L hL f hf c => ?_,by simp,fun m hm => ?_⟩ ⟨0,hp,_,List.mem_singleton.2 rfl,rfl⟩ (by simp)
 ·rw [List.mem_singleton.1 he]; exact ⟨rfl,rfl,List.mem_singleton.2 rfl⟩
 ·rw [List.mem_singleton.1 hm]; exact ⟨[],List.mem_singleton.2 rfl,rfl,rfl⟩
 ·rw [List.mem_singleton.1 hL]; exact .inl (by simp)
 ·rw [List.mem_singleton.1 hm]; exact ⟨Nat.zero_le _,Nat.zero_le _⟩
theorem stL_sound {i j : Nat} {s r : List UInt8} (hsa : pos a 0 s = some i) (hsb : pos b 0 s = some j) : ∀ {cs : List UInt8} {M : List (Nat × Nat)} {Q : List Way},(∀ e ∈ Q,pos a 0 e.2.2 = some e.1 ∧ pos b 0 e.2.2 = some e.2.1) →
  match stL a b i j s cs M Q with
  | (some r,_,_) => Tel a b r ∧ r.length = s.length + 1
  | (none,M',Q') => ∀ e ∈ Q',pos a 0 e.2.2 = some e.1 ∧ pos b 0 e.2.2 = some e.2.1 := by
 intro cs
 induction cs with
 | nil => intro M Q h; exact h
 | cons c cs ih =>
  intro M Q h
  have hra : pos a 0 (s ++ [c]) = nxN a i c := by
   rw [pos_app,hsa]
   show (nxN a i c).bind _ = _
   cases nxN a i c <;> rfl
  have hrb : pos b 0 (s ++ [c]) = nxN b j c := by
   rw [pos_app,hsb]
   show (nxN b j c).bind _ = _
   cases nxN b j c <;> rfl
  rw [stL]
  rcases hna : nxN a i c with _ | x <;> rcases hnb : nxN b j c with _ | y
  ·exact ih h
  ·exact ⟨by unfold Tel; rw [hra,hrb,hna,hnb]; simp,by simp⟩
  ·exact ⟨by unfold Tel; rw [hra,hrb,hna,hnb]; simp,by simp⟩
  ·dsimp only
   by_cases hm : (x,y) ∈ M
   ·rw [if_pos hm]; exact ih h
   ·rw [if_neg hm]
    refine ih fun e he => ?_
    rcases List.mem_append.1 he with h1 | h1
    ·exact h e h1
    ·rw [List.mem_singleton.1 h1]
     exact ⟨by rw [← hna]; exact hra,by rw [← hnb]; exact hrb⟩
theorem bfs_sound {most : Int} {r : List UInt8} : ∀ {n : Nat} {M : List (Nat × Nat)} {Q : List Way},(∀ e ∈ Q,pos a 0 e.2.2 = some e.1 ∧ pos b 0 e.2.2 = some e.2.1) → bfs a b most n M Q = some r → Tel a b r ∧ (r.length : Int) ≤ most := by
 intro n
 induction n with
 | zero => intro M Q _ h; cases h
 | succ n ih =>
  intro M Q hQ h
  cases Q with
  | nil => cases h
  | cons e Q =>
   obtain ⟨i,j,s⟩ := e
   rw [bfs] at h
   by_cases hl : (s.length : Int) < most
   ·rw [if_pos hl] at h
    obtain ⟨hsa,hsb⟩ := hQ _ List.mem_cons_self
    have := stL_sound (r := r) hsa hsb (cs := lets 6) (M := M) (Q := Q) fun e he => hQ e (List.mem_cons_of_mem _ he)
    revert this h
    generalize stL a b i j s (lets 6) M Q = R
    obtain ⟨r',M',Q'⟩ := R
    cases r' with
    | some r' =>
     intro h h2
     have h1 : r' = r := Option.some.inj h
     subst h1
     exact ⟨h2.1,by have h3 : r'.length = s.length + 1 := h2.2; omega⟩
    | none => exact fun h h2 => ih h2 h
   ·rw [if_neg hl] at h; cases h
theorem bfs0_sound {most : Int} {r : List UInt8} (h : bfs0 a b most = some r) : Tel a b r ∧ (r.length : Int) ≤ most := bfs_sound (fun e he => by rw [List.mem_singleton.1 he]; exact ⟨rfl,rfl⟩) h
end
end Go.Proofs.Ytmnmfmghmenkkaa
set_option linter.unusedSimpArgs false
set_option linter.unusedVariables false
namespace Go.Proofs.Ytmnmfmghmenkkaa
open Go.Abs Go.Pur
set_option maxRecDepth 100000
def sz : Nat → List UInt8 → List (List UInt8)
 | 0,_ => [[]]
 | n + 1,w => (lets 6).flatMap fun c => match bhd w c with
  | some w' => (sz n w').map (c :: ·)
  | none => []
theorem sz_mem : ∀ {n : Nat} {w p : List UInt8},p ∈ sz n w → leftW w p = true ∧ p.length = n
 | 0,w,p,h => by
  rw [sz,List.mem_singleton] at h
  subst h
  exact ⟨left_nil,rfl⟩
 | n + 1,w,p,h => by
  rw [sz,List.mem_flatMap] at h
  obtain ⟨c,hc,h⟩ := h
  split at h
  ·rename_i w' hb
   obtain ⟨q,hq,rfl⟩ := List.mem_map.1 h
   obtain ⟨h1,h2⟩ := sz_mem hq
   exact ⟨by rw [bhd_left,hb]; exact h1,by simp [h2]⟩
  ·cases h
theorem sz_all : ∀ {n : Nat} {w p : List UInt8},(∀ c ∈ w,c ∈ lets 6) → leftW w p = true → p.length = n → p ∈ sz n w
 | 0,w,p,hw,h,hn => by
  rw [sz,List.mem_singleton]
  exact List.length_eq_zero_iff.1 hn
 | n + 1,w,[],hw,h,hn => by cases hn
 | n + 1,w,c :: p,hw,h,hn => by
  rw [sz,List.mem_flatMap]
  have hs := leftW_sub.1 h
  refine ⟨c,hw c (hs.mem List.mem_cons_self), ?_⟩
  rw [bhd_left] at h
  cases hb : bhd w c with
  | none => rw [hb] at h; cases h
  | some w' =>
   rw [hb] at h
   exact List.mem_map.2 ⟨p,sz_all (bhd_all hb hw) h (by simpa using hn),rfl⟩
theorem lets6_lt : (lets 6).Pairwise (· < ·) := by decide
theorem sz_sorted : ∀ {n : Nat} {w : List UInt8},(sz n w).Pairwise (· < ·)
 | 0,w => by rw [sz]; exact List.pairwise_singleton _ _
 | n + 1,w => by
  rw [sz,List.pairwise_flatMap]
  refine ⟨fun c _ => ?_,lets6_lt.imp ?_⟩
  ·split
   ·rw [List.pairwise_map]
    exact sz_sorted.imp fun h => List.cons_lt_cons_iff.2 (.inr ⟨rfl,h⟩)
   ·exact List.Pairwise.nil
  ·intro c d h x hx y hy
   split at hx
   ·split at hy
    ·obtain ⟨p,_,rfl⟩ := List.mem_map.1 hx
     obtain ⟨q,_,rfl⟩ := List.mem_map.1 hy
     exact List.cons_lt_cons_iff.2 (.inl h)
    ·cases hy
   ·cases hx
theorem sz_nodup {n : Nat} {w : List UInt8} : (sz n w).Nodup := sz_sorted.imp fun h e => by
 subst e
 exact List.lt_irrefl _ h
theorem eq_of_sorted : ∀ {l m : List (List UInt8)},l.Pairwise (· < ·) → m.Pairwise (· ≤ ·) → m.Nodup → (∀ x,x ∈ l ↔ x ∈ m) → l = m
 | [],[],_,_,_,_ => rfl
 | [],b :: m,_,_,_,h => absurd ((h b).2 List.mem_cons_self) (by simp)
 | a :: l,[],_,_,_,h => absurd ((h a).1 List.mem_cons_self) (by simp)
 | a :: l,b :: m,hl,hm,hn,h => by
  rw [List.pairwise_cons] at hl hm
  rw [List.nodup_cons] at hn
  have e : a = b := Classical.byContradiction fun ne => by
   have h1 : a ∈ m := ((List.mem_cons.1 ((h a).1 List.mem_cons_self)).resolve_left ne)
   have h2 : b ∈ l := ((List.mem_cons.1 ((h b).2 List.mem_cons_self)).resolve_left (Ne.symm ne))
   exact List.not_lt.2 (hm.1 a h1) (hl.1 b h2)
  subst e
  congr 1
  refine eq_of_sorted hl.2 hm.2 hn.2 fun x => ?_
  constructor
  ·intro hx
   refine (List.mem_cons.1 ((h x).1 (List.mem_cons_of_mem _ hx))).resolve_left fun e => ?_
   subst e
   exact List.lt_irrefl _ (hl.1 x hx)
  ·intro hx
   refine (List.mem_cons.1 ((h x).2 (List.mem_cons_of_mem _ hx))).resolve_left fun e => ?_
   subst e
   exact hn.1 hx
theorem srt_eq {n : Nat} {w : List UInt8} (hw : ∀ c ∈ w,c ∈ lets 6) (hn : n ≤ w.length) : srt (allR w.length w n) = sz n w := by
 obtain ⟨h1,h2⟩ := allR_mem (n := w.length) (l := w) (Nat.le_refl _)
 have hp : (srt (allR w.length w n)).Perm (allR w.length w n) := List.mergeSort_perm _ _
 refine (eq_of_sorted sz_sorted ?_ (hp.nodup_iff.2 (h1 n)) fun x => ?_).symm
 ·have := List.pairwise_mergeSort (le := fun (x y : List UInt8) => decide (x ≤ y)) (fun a b c h1 h2 => by
   simp only [decide_eq_true_eq] at *
   exact List.le_trans h1 h2) (fun a b => by
   simp only [Bool.or_eq_true,decide_eq_true_eq]
   exact List.le_total a b) (allR w.length w n)
  exact this.imp fun h => by simpa using h
 ·rw [hp.mem_iff,h2]
  constructor
  ·intro h
   obtain ⟨h3,h4⟩ := sz_mem h
   exact ⟨leftW_sub.1 h3,h4⟩
  ·rintro ⟨h3,h4⟩
   exact sz_all hw (leftW_sub.2 h3) h4
theorem sz_len {n : Nat} {w : List UInt8} (hw : w.length ≤ 10) : (sz n w).length ≤ 1024 := by
 have h1 : (sz n w).length ≤ dl w := nodup_le (m := prt w) sz_nodup fun x hx => prt_mem.2 (sz_mem hx).1
 have h2 := dl_pow (w := w)
 have h3 : 2 ^ w.length ≤ 2 ^ 10 := Nat.pow_le_pow_right (by decide) hw
 omega
theorem f63_find {w : List UInt8} {c : UInt8} {F : Nat} {K : Int → Option (Ck × List (List UInt8))} (hw : w.length ≤ 1000) : ∀ (n j : Nat),w.length + 1 ≤ n + j → j ≤ w.length →
  (bhd (w.drop j) c = none → f63_L1 F w [c] K n j = K w.length) ∧ ∀ w',bhd (w.drop j) c = some w' → ∃ i,i < w.length ∧ w' = w.drop (i + 1) ∧ f63_L1 F w [c] K n j = K i
 | 0,j,h,hj => absurd h (by omega)
 | n + 1,j,h,hj => by
  rw [f63_L1,Option.bind_some,Option.bind_some]
  by_cases hj' : j < w.length
  ·rw [decide_eq_true (show (j : Int) < (w.length : Int) by omega)]
   dsimp only
   rw [wrap_nat (by omega),Option.bind_some,sub_one hj',Option.bind_some,Option.bind_some,List.drop_eq_getElem_cons hj',bhd]
   by_cases hc : w[j] = c
   ·rw [if_pos hc,decide_eq_true (by rw [hc])]
    exact ⟨fun e => (by cases e),fun w' e => ⟨j,hj',(Option.some.inj e).symm,rfl⟩⟩
   ·rw [if_neg hc,decide_eq_false (fun e => hc (List.cons.inj e).1)]
    exact f63_find hw n (j + 1) (by omega) (by omega)
  ·rw [decide_eq_false (show ¬ (j : Int) < (w.length : Int) by omega),List.drop_eq_nil_of_le (by omega)]
   obtain rfl : j = w.length := by omega
   exact ⟨fun _ => rfl,fun w' e => by cases e⟩
theorem f63_more {c : UInt8} {l : List (List UInt8)} {F : Nat} {K : List (List UInt8) → Option (Ck × List (List UInt8))} (hl : l.length ≤ 1024) (hs : ∀ y ∈ l,y.length ≤ 100) : ∀ (n j : Nat) (v : List (List UInt8)),l.length + 1 ≤ n + j → j ≤ l.length → v.length ≤ 20000 + j →
  f63_L2 F [c] l K n (v,(j : Int)) = K (v ++ (l.drop j).map (c :: ·))
 | 0,j,v,h,hj,_ => absurd h (by omega)
 | n + 1,j,v,h,hj,hv => by
  rw [f63_L2,Option.bind_some,Option.bind_some]
  by_cases hj' : j < l.length
  ·rw [decide_eq_true (show (j : Int) < (l.length : Int) by omega)]
   dsimp only
   have hg : gI l (j : Int) = some l[j] := List.getElem?_eq_getElem hj'
   have h100 := hs _ (List.getElem_mem hj')
   have ha : app1 v ([c] ++ l[j]) = some (v ++ [[c] ++ l[j]]) := by
    unfold app1
    rw [Nat.ble_eq_true_of_le (by omega)]
   rw [hg,Option.bind_some,sadd_at (by simp; omega),Option.bind_some,ha,Option.bind_some,wrap_nat (by omega),Option.bind_some,f63_more hl hs n (j + 1) _ (by omega) (by omega) (by simp; omega),List.drop_eq_getElem_cons hj',List.map_cons]
   simp
  ·rw [decide_eq_false (show ¬ (j : Int) < (l.length : Int) by omega),List.drop_eq_nil_of_le (by omega)]
   simp
theorem f63_lets {w : List UInt8} {m F : Nat} {R : List UInt8 → Int → Option (Ck × List (List UInt8))} {K : List (List UInt8) → Option (Ck × List (List UInt8))} (hw : w.length ≤ 10) (hF : 1100 ≤ F) (hm : m ≤ 10)
  (hR : ∀ w',w'.length ≤ 10 → ∃ ck,R w' (m : Int) = some (ck,sz m w')) : ∀ (n j : Nat) (v : List (List UInt8)),7 ≤ n + j → j ≤ 6 → v.length ≤ 1024 * j →
  f63_L0 F R w ((m + 1 : Nat) : Int) K n (v,(j : Int)) = K (v ++ ((lets 6).drop j).flatMap fun c => match bhd w c with
   | some w' => (sz m w').map (c :: ·)
   | none => [])
 | 0,j,v,h,hj,_ => absurd h (by omega)
 | n + 1,j,v,h,hj,hv => by
  rw [f63_L0,Option.bind_some]
  by_cases hj' : j < 6
  ·rw [decide_eq_true (show (j : Int) < 6 by omega)]
   dsimp only
   have hb : bytesN [97 + (j : Int)] = [UInt8.ofNat (97 + j)] := by
    have h1 := @bytesN_ints [UInt8.ofNat (97 + j)]
    unfold ints at h1
    rw [List.map_cons,List.map_nil,let_nat hj'] at h1
    exact h1
   rw [wrap64 (z := 97 + (j : Int)) (by omega) (by omega),Option.bind_some,wrap8 (by omega) (by omega),Option.bind_some,hb,Option.bind_some]
   have hd : (lets 6).drop j = UInt8.ofNat (97 + j) :: (lets 6).drop (j + 1) := by
    rw [List.drop_eq_getElem_cons (by rw [lets_len]; exact hj'),lets_at hj']
   rw [hd,List.flatMap_cons]
   generalize UInt8.ofNat (97 + j) = c
   obtain ⟨q1,q2⟩ := @f63_find w c F (fun v14 =>
    (some ((w.length : Int))).bind fun x15 =>
    (some (decide (v14 = x15))).bind fun x16 =>
    (match x16 with
    | true => ((some (IntKind.i64.wrap ((j : Int) + 1))).bind fun x17 =>
    f63_L0 F R w ((m + 1 : Nat) : Int) K n (v,x17))
    | false => ((some (IntKind.i64.wrap (v14 + 1))).bind fun x18 =>
    (subF w x18).bind fun x19 =>
    (some (IntKind.i64.wrap (((m + 1 : Nat) : Int) - 1))).bind fun x20 =>
    (R x19 x20).bind fun (c21,l22) =>
    f63_L2 F [c] l22 (fun v32 =>
     (some (IntKind.i64.wrap ((j : Int) + 1))).bind fun x33 =>
     f63_L0 F R w ((m + 1 : Nat) : Int) K n (v32,x33)) F (v,0)))) (by omega) F 0 (by omega) (by omega)
   rw [List.drop_zero] at q1 q2
   cases hbh : bhd w c with
   | none =>
    refine (q1 hbh).trans ?_
    dsimp only
    rw [Option.bind_some,Option.bind_some,decide_eq_true rfl]
    dsimp only
    rw [wrap_nat (by omega),Option.bind_some,f63_lets hw hF hm hR n (j + 1) v (by omega) (by omega) (by omega)]
    simp
   | some w' =>
    obtain ⟨i,hi,hw',q⟩ := q2 w' hbh
    refine q.trans ?_
    dsimp only
    have hl' : w'.length ≤ 10 := by have := bhd_len hbh; omega
    obtain ⟨ck,hRR⟩ := hR w' hl'
    have hmm : IntKind.i64.wrap (((m + 1 : Nat) : Int) - 1) = (m : Int) := by rw [wrap64 (by omega) (by omega)]; omega
    rw [Option.bind_some,Option.bind_some,decide_eq_false (show ¬ (i : Int) = (w.length : Int) by omega)]
    dsimp only
    rw [wrap_nat (by omega),Option.bind_some,subF_at (by omega),Option.bind_some,hmm,Option.bind_some,← hw',hRR,Option.bind_some]
    dsimp only
    have hsl := sz_len (n := m) hl'
    refine (f63_more (K := fun v32 =>
     (some (IntKind.i64.wrap ((j : Int) + 1))).bind fun x33 =>
     f63_L0 F R w ((m + 1 : Nat) : Int) K n (v32,x33)) hsl (fun y hy => by have := (sz_mem hy).2; omega) F 0 v (by omega) (by omega) (by omega)).trans ?_
    rw [List.drop_zero,wrap_nat (by omega)]
    try dsimp only
    rw [Option.bind_some,f63_lets hw hF hm hR n (j + 1) _ (by omega) (by omega) (by simp; omega),List.append_assoc]
  ·rw [decide_eq_false (show ¬ (j : Int) < 6 by omega)]
   have : (lets 6).drop j = [] := List.drop_eq_nil_of_le (by rw [lets_len]; omega)
   rw [this]
   simp
theorem f63_law {F : Nat} (hF : 1100 ≤ F) : ∀ {n D : Nat} {w : List UInt8},n ≤ 11 → n < D → w.length ≤ 10 → ∃ ck,f63S F D w (n : Int) = some (ck,sz n w)
 | n,0,w,_,h,_ => absurd h (by omega)
 | 0,D + 1,w,_,h,hw => by
  refine ⟨.full, ?_⟩
  rw [f63S,Option.bind_some,show decide (((0 : Nat) : Int) = 0) = true from rfl]
  rfl
 | n + 1,D + 1,w,hn,h,hw => by
  refine ⟨.nz, ?_⟩
  rw [f63S,Option.bind_some,decide_eq_false (show ¬ ((n + 1 : Nat) : Int) = 0 by omega)]
  dsimp only
  have := f63_lets (w := w) (m := n) (F := F) (R := f63S F D) (K := fun v34 => some (.nz,v34)) hw hF (by omega) (fun w' hw' => f63_law hF (by omega) (by omega) hw') F 0 [] (by omega) (by omega) (by simp)
  rw [show ((0 : Nat) : Int) = 0 from rfl,List.drop_zero,List.nil_append] at this
  rw [this,sz]
theorem checkW_lets {w : List UInt8} (h : checkW w = 0) : w.length ≤ 10 ∧ ∀ c ∈ w,c ∈ lets 6 := by
 obtain ⟨h1,h2⟩ := checkW_let h
 refine ⟨h1,fun c hc => (lets_mem (Nat.le_refl 6)).2 ?_⟩
 have := h2 c hc
 omega
end Go.Proofs.Ytmnmfmghmenkkaa
set_option linter.unusedSimpArgs false
set_option linter.unusedVariables false
namespace Go.Proofs.Ytmnmfmghmenkkaa.Q
open Go.Abs Go.Pur
set_option maxRecDepth 100000
set_option maxHeartbeats 2000000
attribute [local simp] Go.Pur.EK_region Go.Pur.EK_seq Go.Pur.EK_cond Go.Pur.EK_block Go.Pur.EK_blk Go.Pur.EK_loop Go.Pur.EK_exit EK.ex Go.Pur.EK_ret Go.Pur.EK_skip Go.Pur.EK_nil Go.Pur.EO_cons Go.Pur.EO_nil Go.Pur.EO1_true Go.Pur.EO1_false Go.Pur.EO2_some Go.Pur.EO3_some Go.Pur.EB_true Go.Pur.EB_false Go.Pur.pwanted Go.Pur.poper Go.Pur.pq Go.Pur.pev Go.Pur.look Go.Pur.pputT Go.Pur.isAssign Go.Pur.drOf Go.Pur.pinit Go.Abs.Tr.get_set Go.Pur.lget Go.Pur.pvOf_int Go.Pur.pvOf_bool Go.Pur.pvOf_str Go.Pur.pvOf_nil Go.Pur.rdv_ak Go.Pur.notOwn_ak Go.Pur.prt_ak Go.Pur.loose_ak Go.Pur.rdv_own Go.Pur.rdv_fz Go.Pur.rdv_bor Go.Pur.rdv_rf Go.Pur.rdv_pt Go.Pur.rdv_v Go.Pur.rdv_a Go.Pur.rdv_t Go.Pur.rdv_r Go.Pur.rdv_p Go.Pur.rdv_s Go.Pur.rdv_f Go.Pur.pbin Go.Pur.plen Go.Pur.pload Go.Pur.ppart Go.Pur.idxAddr Go.Pur.pcond Nat.blt Go.Pur.goInt_eq Go.Pur.prun_not Go.Pur.prun_neg Go.Pur.mayLoad Go.Pur.ER_ret Go.Pur.ER_normal Go.Pur.presL Go.Pur.presOne Go.Pur.moved Go.Pur.stor Go.Pur.okDrop Go.Pur.settle_v Go.Pur.settle_l Go.Pur.settle_a Go.Pur.settle_p Go.Pur.settle_f Go.Pur.noref_v Go.Pur.noref_fz Go.Pur.noref_a Go.Pur.norefs_nil Go.Pur.norefs_cons Go.Pur.pclose Go.Pur.given Go.Pur.dropB Y0_keep Go.Pur.pevParts Go.Pur.stors Go.Pur.pvCells pvCells.go Go.Abs.vcells Go.Pur.pfill Go.Pur.reps Go.Pur.zipParts Go.Pur.ownFz Go.Pur.pcells Go.Pur.cellOK Go.Pur.one Go.Pur.psrcLen Go.Pur.srcFits Go.Pur.psrc Go.Pur.takeP Go.Pur.pgrow Go.Pur.take Go.Pur.getPl Go.Pur.setPl Go.Pur.mapL Go.Pur.plEq Go.Pur.elder Go.Pur.isList Go.Pur.lowP Go.Pur.pevs Go.Pur.frzs Go.Pur.addP Go.Pur.partAt Go.Pur.ble_lim24 Go.Pur.killV_v Go.Pur.killV_a Go.Pur.killV_t Go.Pur.killV_f Go.Pur.killV_i Go.Pur.killV_p Go.Pur.killV_s Go.Pur.killV_un Go.Pur.killV_dead Go.Pur.killV_lfz Go.Pur.killV_lbor Go.Pur.killV_lown Go.Pur.killV_rfz Go.Pur.killV_rbor Go.Pur.killV_lak Go.Pur.killV_rak Go.Pur.frzV_v Go.Pur.frzV_a Go.Pur.frzV_t Go.Pur.frzV_f Go.Pur.frzV_i Go.Pur.frzV_p Go.Pur.frzV_s Go.Pur.frzV_un Go.Pur.frzV_dead Go.Pur.frzV_lfz Go.Pur.frzV_lbor Go.Pur.frzV_lown Go.Pur.frzV_rfz Go.Pur.frzV_rbor Go.Pur.frzV_lak Go.Pur.frzV_rak Go.Pur.killCell_v Go.Pur.killCell_a Go.Pur.killCell_t Go.Pur.killCell_f Go.Pur.killCell_i Go.Pur.killCell_p Go.Pur.killCell_s Go.Pur.killCell_un Go.Pur.killCell_dead Go.Pur.killCell_lfz Go.Pur.killCell_lbor Go.Pur.killCell_lown Go.Pur.killCell_rfz Go.Pur.killCell_rbor Go.Pur.killCell_lak Go.Pur.killCell_rak Go.Pur.killV_lrf Go.Pur.killV_lpt Go.Pur.killV_rpt Go.Pur.frzV_lrf Go.Pur.frzV_lpt Go.Pur.frzV_rpt Go.Pur.killCell_lrft Go.Pur.killCell_lptt Go.Pur.killCell_rptt Go.Pur.killCell_lrfc Go.Pur.killCell_lptc Go.Pur.killCell_rptc Go.Pur.argv_lak Go.Pur.argv_rak Go.Pur.argv_v Go.Pur.argv_a Go.Pur.argv_p Go.Pur.argv_f Go.Pur.argv_fz Go.Pur.argv_bor Go.Pur.argv_rf Go.Pur.argv_pt Go.Pur.argv_rc Go.Pur.argv_own Go.Pur.mayTurn_none Go.Pur.argvs Go.Pur.pcallOp Go.Pur.firm Go.Pur.refsTo_v Go.Pur.refsTo_l Go.Pur.refsTo_p Go.Pur.refsTo_s Go.Pur.refsTo_a Go.Pur.refsTo_dead Go.Pur.refsTo_nil Go.Pur.refsTo_cons Go.Pur.isOwn_lak Go.Pur.ownFz_lak Go.Pur.evSafe Go.Pur.pskip Go.Abs.plain Go.Pur.pnewBlk Go.Pur.fldAddr Go.Pur.isOwn Go.Pur.pput Go.Pur.notOwn_fz Go.Pur.notOwn_bor Go.Pur.notOwn_own Go.Pur.notOwn_rf Go.Pur.notOwn_pt Go.Pur.prt_fz Go.Pur.prt_bor Go.Pur.prt_own Go.Pur.prt_rf Go.Pur.prt_pt Go.Pur.freeze Go.Pur.presM Go.Pur.settles Go.Pur.abin_and Go.Pur.abin_or Go.Pur.abin_andNot Go.Pur.abin_mul Go.Pur.abin_shr Go.Pur.abin_shl Go.Pur.abin_add Go.Pur.abin_sub Go.Pur.abin_eql Go.Pur.abin_neq Go.Pur.abin_lss Go.Pur.abin_leq Go.Pur.abin_gtr Go.Pur.abin_geq Go.Pur.hows Go.Pur.pcallIn Y0_how Y0_part howOf partOf Go.Pur.rdv_mown Go.Pur.rdv_mfz Go.Pur.rdv_mbor Go.Pur.rdv_mrf Go.Pur.killV_mown Go.Pur.killV_mfz Go.Pur.killV_mbor Go.Pur.killV_mrf Go.Pur.frzV_mown Go.Pur.frzV_mfz Go.Pur.frzV_mbor Go.Pur.frzV_mrf Go.Pur.killCell_mown Go.Pur.killCell_mfz Go.Pur.killCell_mbor Go.Pur.killCell_mrf Go.Pur.argv_mfz Go.Pur.argv_mbor Go.Pur.argv_mrf Go.Pur.settle_m Go.Pur.kls_v Go.Pur.kls_l Go.Pur.kls_a Go.Pur.kls_t Go.Pur.kls_r Go.Pur.kls_p Go.Pur.kls_s Go.Pur.kls_f Go.Pur.kls_i Go.Pur.kls_it Go.Pur.kls_un Go.Pur.kls_dead Go.Pur.kls_mown Go.Pur.kls_mrf Go.Pur.kls_mbor Go.Pur.kls_mfz Go.Pur.fzOf Go.Pur.takable Go.Pur.mapHere Go.Pur.mapOwn Go.Pur.mapTo Go.Pur.flat Go.Pur.toPlain toPlain.go Go.Pur.ofFlat Go.Pur.ofPair Go.Pur.mapEs Go.Pur.plook Go.Abs.lookRes Y0_mv mvOf Go.Pur.mvBlk Go.Pur.premv Y0_fzm fzmOf Go.Pur.poperX Go.Pur.pconv Go.Pur.mvOp keep25 keep27 sz3 by3 row3 zero3 sz4 by4 row4 zero4 sz5 by5 row5 zero5 sz9 by9 row9 shape9 zero9 sz21 by21 row21 zero21 sz22 by22 row22 zero22 sz24 by24 row24 zero24 sz29 by29 row29 shape29 zero29 sz36 by36 row36 shape36 zero36 sz52 by52 row52 shape52 zero52 parts52 sz54 by54 row54 zero54 parts54 field54_0 field54_1 sz58 by58 row58 zero58 mt58 az3 sz63 by63 row63 zero63 sz66 by66 row66 shape66 zero66 parts66 sz67 by67 row67 shape67 zero67 sz75 by75 row75 shape75 zero75 sz76 by76 row76 shape76 zero76 sz78 by78 row78 zero78 mt78 sz79 by79 row79 shape79 zero79 sz92 by92 row92 zero92 sz94 by94 row94 zero94 parts94 field94_0 field94_1 sz99 by99 row99 shape99 zero99 sz102 by102 row102 zero102 mt102 az4 sz103 by103 row103 zero103 mt103 sz106 by106 row106 zero106 parts106 field106_0 field106_1 sz108 by108 row108 zero108 parts108 field108_0 field108_1 sz109 by109 row109 shape109 zero109 sz110 by110 row110 zero110 mt110 sz112 by112 row112 zero112 sz115 by115 row115 zero115 sz116 by116 row116 zero116 sz119 by119 row119 zero119 sz127 by127 row127 zero127 sz129 by129 row129 zero129 sz130 by130 row130 zero130 sz134 by134 row134 zero134 Go.Pur.bs_size Go.Pur.gAt Go.Pur.gAt0 Go.Pur.sAt Go.Pur.sAt0 Go.Pur.optPlain Go.Pur.rows_len Go.Pur.noMaker_eq Go.Abs.kindOf Go.Pur.vlOf Go.Pur.abin_rem Go.Pur.abin_quo Go.Pur.mayTurn_none Go.Pur.lowOf_none Go.Pur.partAt Go.Pur.rows_nil Go.Pur.rows_cons Go.Pur.ble_add Go.Pur.ble_add0 Go.Pur.ble_same Go.Pur.toPlain toPlain.go Go.Pur.intIn2_0 Go.Pur.intIn2_1 Go.Pur.ble12 Go.Pur.ble22 Go.Pur.tv Go.Pur.lv Go.Pur.max_int Go.Pur.min_int Go.Pur.pplains Go.Pur.ak_true Go.Pur.ak_false Go.Pur.apartP Go.Pur.beq_add Go.Pur.beq_add0 Go.Pur.beq_add1 Go.Pur.argv_s Go.Pur.wok_none Go.Pur.wok_low_iff Go.Pur.lowOf_wok
theorem f25_is {l : List UInt8} {r : Int} {hp : List (Option (List PV))} (h : some (checkW l) = some r) : E Try.prog Y0 25 [.v (.string (bs l))] hp = some (iv r,hp,none) := by
 cases h
 rw [E_bodyN 1 body25 rfl (by decide) rfl]
 simp only [Try.f25,Option.get_some]
 unfold checkW
 by_cases h10 : 10 < l.length
 ·have h1 : (10 : Int) < (l.length : Int) := by omega
  rw [if_pos h10]
  simp [h1]
 ·have h1 : ¬ (10 : Int) < (l.length : Int) := by omega
  rw [if_neg h10]
  obtain ⟨r0,hr0⟩ : ∃ r0,(if l.all letW = true then (0 : Int) else 10) = r0 := ⟨_,rfl⟩
  rw [hr0]
  simp [h1]
  refine loop_ind (fun m σ => ∃ (k : Nat) (ts : Tr PV) (w : Option Nat),m + k = l.length ∧ wok hp.length w ∧ (l.take k).all letW = true ∧ σ = ⟨[],ts,hp,w⟩ ∧ ts.get 9 = some (.it (bs l) k)) (n0 := l.length) ?_ ?_
  ·exact ⟨0,_,_,by omega,by simp,by simp,rfl,by simp⟩
  ·rintro m σ ⟨k,ts,w,hm,hw,hall,rfl,g9⟩ ih
   by_cases hk : k < l.length
   ·have hb : Nat.ble (k + 1) l.length = true := ble_true hk
    by_cases hc : letW l[k] = true
    ·have hl : 97 ≤ l[k].toNat ∧ l[k].toNat < 103 := by simpa [letW] using hc
     have hd : Utf8.decode (bs l) k = (l[k].toNat,1) := gA_ok (by
      unfold gA
      rw [List.getElem?_eq_getElem hk]
      simp only []
      rw [show Nat.blt l[k].toNat 128 = true from Nat.ble_eq_true_of_le (by omega)])
     have c1 : ¬ (l[k].toNat : Int) < 97 := by omega
     have c2 : ¬ (103 : Int) ≤ (l[k].toNat : Int) := by omega
     generalize hx : l[k] = x at *
     simp [g9,hb,hd,c1,c2]
     refine ih (m - 1) _ (by omega) ⟨k + 1,_,_,by omega,by simp [hw], ?_,rfl,by simp⟩
     rw [List.take_add_one,List.getElem?_eq_getElem hk,List.all_append,hall,hx]
     simp [hc]
    ·have hf : l.all letW = false := by
      rw [← Bool.not_eq_true,List.all_eq_true]
      intro h
      exact hc (h _ (List.getElem_mem hk))
     have hd : (Utf8.decode (bs l) k).1 < 97 ∨ 103 ≤ (Utf8.decode (bs l) k).1 := by
      by_cases h128 : 128 ≤ l[k].toNat
      ·have := decode_hi (s := bs l) (i := k) (by rw [bs_get hk]; exact h128)
       omega
      ·have hd : Utf8.decode (bs l) k = (l[k].toNat,1) := gA_ok (by
        unfold gA
        rw [List.getElem?_eq_getElem hk]
        simp only []
        rw [show Nat.blt l[k].toNat 128 = true from Nat.ble_eq_true_of_le (by omega)])
       rw [hd]
       have : ¬ (97 ≤ l[k].toNat ∧ l[k].toNat < 103) := by simpa [letW] using hc
       simp only []
       omega
     rw [hf] at hr0
     obtain rfl : (10 : Int) = r0 := hr0
     clear ih
     rcases hd with hd | hd
     ·have c1 : ((Utf8.decode (bs l) k).1 : Int) < 97 := by omega
      simp [g9,hb,c1,hw]
     ·have c1 : ¬ ((Utf8.decode (bs l) k).1 : Int) < 97 := by omega
      have c2 : (103 : Int) ≤ ((Utf8.decode (bs l) k).1 : Int) := by omega
      simp [g9,hb,c1,c2,hw]
   ·have hb : Nat.ble (k + 1) l.length = false := bleF (by omega)
    rw [List.take_of_length_le (by omega)] at hall
    rw [hall] at hr0
    obtain rfl : (0 : Int) = r0 := hr0
    clear ih
    simp [g9,hb,hw]
theorem left_is {w p : List UInt8} {r : Bool} {hp : List (Option (List PV))} (hw : w.length < 1000000000) (h : some (leftW w p) = some r) : E Try.prog Y0 27 [.v (.string (bs w)),.v (.string (bs p))] hp = some (.v (.bool r),hp,none) := by
 cases h
 obtain ⟨r0,hr0⟩ : ∃ r0,leftW w p = r0 := ⟨_,rfl⟩
 rw [hr0]
 rw [E_bodyN 2 body27 rfl (by decide) rfl]
 simp only [Try.f27,Option.get_some]
 simp
 refine loop_ind (fun m σ => ∃ (k : Nat) (p' : List UInt8) (ts : Tr PV) (wl : Option Nat),m + k = w.length ∧ wok hp.length wl ∧ leftW (w.drop k) p' = r0 ∧ σ = ⟨[],ts,hp,wl⟩ ∧ ts.get 0 = some (.v (.string (bs w))) ∧ ts.get 1 = some (.v (.string (bs p'))) ∧ ts.get 5 = some (iv k)) (n0 := w.length) ?_ ?_
 ·exact ⟨0,p,_,_,by omega,by simp,hr0,rfl,by simp,by simp,by simp⟩
 ·rintro m σ ⟨k,p',ts,wl,hm,hwl,hr,rfl,g0,g1,g5⟩ ih
  have hsz : (bs w).size = w.length := bs_size
  cases p' with
  | nil =>
   rw [left_nil] at hr
   subst hr
   have q1 : ∀ x y,abin Try.prog .neq 9 x y (.string (bs [])) (.string ⟨#[]⟩) = some (.bool false) := fun x y => by kernel_rfl
   have q2 : ∀ x y,abin Try.prog .eql 9 x y (.string (bs [])) (.string ⟨#[]⟩) = some (.bool true) := fun x y => by kernel_rfl
   clear ih
   by_cases hk : (k : Int) < (w.length : Int)
   ·simp [g0,g1,g5,hsz,hk,q1,q2,hwl]
   ·simp [g0,g1,g5,hsz,hk,q1,q2,hwl]
  | cons d p' =>
   have q1 : ∀ x y,abin Try.prog .neq 9 x y (.string (bs (d :: p'))) (.string ⟨#[]⟩) = some (.bool true) := fun x y => by
    rw [abin_sneq]; simp
   have q2 : ∀ x y,abin Try.prog .eql 9 x y (.string (bs (d :: p'))) (.string ⟨#[]⟩) = some (.bool false) := fun x y => by
    rw [abin_seql]; simp
   by_cases hk : k < w.length
   ·have h1 : (k : Int) < (w.length : Int) := by omega
    have w1 : IntKind.i64.wrap ((k : Int) + 1) = ((k + 1 : Nat) : Int) := wrap_nat (by omega)
    have hg : gS w (k : Int) = some (w[k].toNat : Int) := by
     show (match w[k]? with | some c => some (c.toNat : Int) | none => none) = _
     rw [List.getElem?_eq_getElem hk]
    have e1 := (gS_ok (P := Try.prog) (t := 9) (k := .i64) Try.underlying9 shape9 hg).1
    have e2 := (gS_ok (P := Try.prog) (t := 9) (k := .i64) Try.underlying9 shape9 (show gS (d :: p') ((0 : Nat) : Int) = some (d.toNat : Int) from rfl)).1
    rw [show ((0 : Nat) : Int) = 0 from rfl] at e2
    rw [left_drop hk] at hr
    generalize w[k] = c at *
    by_cases hc : c = d
    ·subst hc
     rw [if_pos rfl] at hr
     simp [g0,g1,g5,hsz,h1,q1,q2,e1,e2,optPlain,slice_tail,w1]
     exact ih (m - 1) _ (by omega) ⟨k + 1,p',_,_,by omega,hwl,hr,rfl,by simp [g0],by simp,by simp⟩
    ·rw [if_neg hc] at hr
     have hc2 : ¬ (c.toNat : Int) = (d.toNat : Int) := fun e => hc (UInt8.toNat.inj (by omega))
     simp [g0,g1,g5,hsz,h1,q1,q2,e1,e2,hc2,w1]
     exact ih (m - 1) _ (by omega) ⟨k + 1,d :: p',_,_,by omega,hwl,hr,rfl,by simp [g0],by simp [g1],by simp⟩
   ·have h1 : ¬ (k : Int) < (w.length : Int) := by omega
    rw [List.drop_of_length_le (by omega)] at hr
    obtain rfl : false = r0 := hr
    clear ih
    simp [g0,g1,g5,hsz,h1,q1,q2,hwl]
end Go.Proofs.Ytmnmfmghmenkkaa.Q
set_option linter.unusedSimpArgs false
set_option linter.unusedVariables false
namespace Go.Proofs.Ytmnmfmghmenkkaa
open Go.RowKit Go.Abs Go.Pur
set_option maxRecDepth 1000000
set_option maxHeartbeats 4000000
def Emp (s : Value) : Prop := s = .slice none 0 0 ∨ ∃ a c,s = .slice (some a) 0 c
theorem func57_emp {s : Value} (hs : Emp s) (w : World) : Calls Try.prog 57 #[s] w fun e w' => e = .returned (.int .i64 0) ∧ Below w.heap.size w w' := by
 have mixed : Try.prog.follows .mixedOrders = true := by kernel_rfl
 rcases hs with rfl | ⟨a,c,rfl⟩
 ·go_enter Try.func57,Try.ntmps57
  go_wp2_with fail
  go_loopg [8] 1 (fun gk s8 wx => s8 = .int .i64 0 ∧ wx = w)
  case atStart => exact ⟨rfl,rfl⟩
  case round =>
   obtain ⟨rfl,rfl⟩ := hrel
   go_wp2_with fail
   go_ret
   exact ⟨rfl,Below.refl _ _⟩
 ·go_enter Try.func57,Try.ntmps57
  go_wp2_with fail
  go_loopg [8] 1 (fun gk s8 wx => s8 = .int .i64 0 ∧ wx = w)
  case atStart => exact ⟨rfl,rfl⟩
  case round =>
   obtain ⟨rfl,rfl⟩ := hrel
   go_wp2_with fail
   go_ret
   exact ⟨rfl,Below.refl _ _⟩
theorem short_emp {s : Value} (hs : Emp s) (i : Int) (w : World) : Calls Try.prog 44 #[s,.int .i64 i] w fun e w' => e = .returned (.tuple #[.string ⟨#[]⟩,.int .i64 2]) ∧ Below w.heap.size w w' := by
 have mixed : Try.prog.follows .mixedOrders = true := by kernel_rfl
 have H57 := hid70 (func57_emp hs w)
 by_cases hi : i < 0
 ·rcases hs with rfl | ⟨a,c,rfl⟩
  ·go_enter Try.func44,Try.ntmps44
   go_wp2_with (go_at_call 57; refine H57.out.mono ?_; rintro e wa ⟨rfl,ba⟩)
   go_ret2
   exact ⟨rfl,ba⟩
  ·go_enter Try.func44,Try.ntmps44
   go_wp2_with (go_at_call 57; refine H57.out.mono ?_; rintro e wa ⟨rfl,ba⟩)
   go_ret2
   exact ⟨rfl,ba⟩
 ·have hi2 : (0 : Int) ≤ i := by omega
  rcases hs with rfl | ⟨a,c,rfl⟩
  ·go_enter Try.func44,Try.ntmps44
   go_wp2_with (go_at_call 57; refine H57.out.mono ?_; rintro e wa ⟨rfl,ba⟩)
   go_ret2
   exact ⟨rfl,ba⟩
  ·go_enter Try.func44,Try.ntmps44
   go_wp2_with (go_at_call 57; refine H57.out.mono ?_; rintro e wa ⟨rfl,ba⟩)
   go_ret2
   exact ⟨rfl,ba⟩
theorem pstrs_map : ∀ {cs : List Value} {vs : List (List UInt8)},pstrs cs = some vs → cs = vs.map strV
 | [],vs,h => by cases h; rfl
 | c :: cs,vs,h => by
  unfold pstrs at h
  split at h
  ·rename_i k r h1 h2
   cases h
   rw [List.map_cons,← pstrs_map h2]
   congr 1
   unfold keyS at h1
   split at h1
   ·cases h1; rfl
   ·cases h1
  ·cases h
theorem ok44 : FnOK Try.prog Y0 44 := by
 refine fnOK_lib e44 rfl (by kernel_rfl) (fun xs rs he m h w hR args hd => ?_)
 unfold e44 at he
 split at he
 ·rename_i cs i
  split at he
  ·rename_i vs hvs
   split at he
   ·rename_i hok
    cases he
    cases hd with
    | cons v a vs' ks' k1 ht =>
    cases ht with
    | cons v2 a2 vs2 ks2 k2 ht2 =>
    cases ht2
    cases k2
    have hcs := pstrs_map hvs
    simp only [Bool.and_eq_true,Nat.ble_eq,List.all_eq_true] at hok
    have fin : ∀ e w',Post44 vs i w e w' → ∃ us,e = .returned (packed us) ∧ Below w.heap.size w w' ∧ RDens w.heap.size w' us [.p (.string ⟨(shortL vs i).1.toArray⟩),.p (.int .i64 (shortL vs i).2)] := fun e w' hp =>
     ⟨[.string ⟨(shortL vs i).1.toArray⟩,.int .i64 (shortL vs i).2],hp.1,hp.2,.cons _ _ _ _ (.p _) (.cons _ _ _ _ (.p _) .nil)⟩
    have emp : cs = [] → ∀ s,Emp s → Calls Try.prog 44 #[s,.int .i64 i] w fun e w' => Post44 vs i w e w' := fun hc s hs => by
     subst hc
     obtain rfl : vs = [] := by cases vs with
      | nil => rfl
      | cons => cases hcs
     refine (short_emp hs i w).mono fun e w' ⟨h1,h2⟩ => ⟨?_,h2⟩
     have : shortL [] i = ([],2) := by
      unfold shortL
      rw [if_neg (by simp),if_neg (by simp [chkL]),if_pos (by simp; omega)]
     rw [h1,this]
    cases k1 with
    | nil => exact (emp rfl _ (.inl rfl)).mono fin
    | emp a c => exact (emp rfl _ (.inr ⟨_,_,rfl⟩)).mono fin
    | lst b o c _ hne hc hb hr =>
     have hl : cs.length = vs.length := by rw [hcs,List.length_map]
     rw [hl]
     refine (short_calls vs b o c i w (by omega) (fun j v hv => hr j _ (by rw [hcs,List.getElem?_map,hv]; rfl)) (fun W hB v hv => ?_) (fun W hB v hv x hx => ?_)).mono fin
     ·refine pure_plain (Y := Q.Y0) (f := 25) (vs := [.string ⟨v.toArray⟩]) (rs := [.int .i64 (checkW v)]) (by kernel_rfl) progFine (fun g hg => by cases hg) rfl (hR.below hB).1 rfl ?_ (Q.f25_is (hp := []) rfl)
      intro u hu
      simp only [List.mem_cons,List.not_mem_nil,or_false] at hu
      subst hu
      exact ⟨rfl,fun n c e => by cases e⟩
     ·refine pure_plain (Y := Q.Y0) (f := 27) (vs := [.string ⟨v.toArray⟩,.string ⟨x.toArray⟩]) (rs := [.bool (leftW v x)]) (by kernel_rfl) progFine (fun g hg => by cases hg) rfl (hR.below hB).1 rfl ?_ (Q.left_is (hp := []) (by have := hok.2 v hv; omega) rfl)
      intro u hu
      simp only [List.mem_cons,List.not_mem_nil,or_false] at hu
      rcases hu with rfl | rfl <;> exact ⟨rfl,fun n c e => by cases e⟩
   ·cases he
  ·cases he
 ·cases he
end Go.Proofs.Ytmnmfmghmenkkaa
set_option linter.unusedSimpArgs false
set_option linter.unusedVariables false
namespace Go.Proofs.Ytmnmfmghmenkkaa
open Go.Abs Go.Pur Go.RowKit
set_option maxRecDepth 100000
theorem byV_ok {v : Value} {c : UInt8} (h : byV v = some c) : v = .int .u8 c.toNat := by
 unfold byV at h
 split at h
 ·rename_i c'
  split at h
  ·rename_i hc
   have h1 := Nat.le_of_ble_eq_true hc
   cases h
   have : (c'.toUInt8).toNat = c' := by
    simp only [Nat.toUInt8,UInt8.toNat_ofNat']
    omega
   rw [this]
   rfl
  ·cases h
 ·cases h
theorem bysV_ok : ∀ {l : List Value} {xs : List UInt8},bysV l = some xs → l = Lib.byteCells xs
 | [],xs,h => by cases h; rfl
 | v :: l,xs,h => by
  unfold bysV at h
  split at h
  ·rename_i c r h1 h2
   cases h
   rw [byV_ok h1,bysV_ok h2]
   rfl
  ·cases h
theorem bysV_size {A : Array Value} {xs : List UInt8} (h : bysV A.toList = some xs) : A = (Lib.byteCells xs).toArray ∧ A.size = xs.length := by
 have h1 := bysV_ok h
 have h2 : A = (Lib.byteCells xs).toArray := by rw [← h1]
 exact ⟨h2,by rw [h2]; simp [Lib.byteCells]⟩
theorem ok53 : FnOK Try.prog Y0 53 := by
 refine fnOK_lib e53 rfl (by kernel_rfl) (fun xs rs he m h w hR args hd => ?_)
 unfold e53 at he
 split at he
 ·rename_i s z
  split at he
  ·rename_i hb
   cases he
   cases hd with
   | cons v a vs ks h1 ht =>
   cases ht with
   | cons v2 a2 vs2 ks2 h2 ht2 =>
   cases ht2; cases h1; cases h2
   exact (taken_calls s z w (by have := Nat.le_of_ble_eq_true hb; omega)).mono fun e w' ⟨h1,h2⟩ => ⟨[.string _],h1,h2,.cons _ _ _ _ (.p _) .nil⟩
  ·cases he
 ·cases he
theorem ok56 : FnOK Try.prog Y0 56 := by
 refine fnOK_lib e56 rfl (by kernel_rfl) (fun xs rs he m h w hR args hd => ?_)
 unfold e56 at he
 split at he
 ·rename_i s c
  cases he
  cases hd with
  | cons v a vs ks h1 ht =>
  cases ht with
  | cons v2 a2 vs2 ks2 h2 ht2 =>
  cases ht2; cases h1; cases h2
  refine (Try.strings_IndexByte s (Int.ofNat c) w).mono fun e w' ⟨h1,h2⟩ => ?_
  subst h2
  refine ⟨[.int .i64 _], ?_,Below.refl _ _,.cons _ _ _ _ (.p _) .nil⟩
  rw [h1]
  have : ∀ l x,Lib.indexByte l x = ixB l x := by
   intro l x
   induction l with
   | nil => rfl
   | cons b l ih => rw [Lib.indexByte,ixB,ih]
  rw [this]
  rfl
 ·cases he
theorem ok48 : FnOK Try.prog Y0 48 := by
 refine fnOK_lib e48 rfl (by kernel_rfl) (fun xs rs he m h w hR args hd => ?_)
 unfold e48 at he
 split at he
 ·rename_i A n k
  split at he
  ·rename_i ys hy hs hn h1k hk6
   cases he
   cases hd with
   | cons v a vs ks h1 ht =>
   cases ht with
   | cons v2 a2 vs2 ks2 h2 ht2 =>
   cases ht2 with
   | cons v3 a3 vs3 ks3 h3 ht3 =>
   cases ht3; cases h1; cases h2; cases h3
   obtain ⟨e1,e2⟩ := bysV_size hy
   have e3 := Nat.eq_of_beq_eq_true hs
   rw [e1]
   exact (sized_calls ys (by omega) n k w (Nat.le_of_ble_eq_true hn) (Nat.le_of_ble_eq_true h1k) (Nat.le_of_ble_eq_true hk6)).mono fun e w' ⟨h1,h2⟩ => ⟨[.string _],h1,h2,.cons _ _ _ _ (.p _) .nil⟩
  ·cases he
 ·cases he
theorem ok51 : FnOK Try.prog Y0 51 := by
 refine fnOK_lib e51 rfl (by kernel_rfl) (fun xs rs he m h w hR args hd => ?_)
 unfold e51 at he
 split at he
 ·rename_i A n k
  split at he
  ·rename_i c0 ys hy hs hn h1k hk6
   cases he
   cases hd with
   | cons v a vs ks h1 ht =>
   cases ht with
   | cons v2 a2 vs2 ks2 h2 ht2 =>
   cases ht2 with
   | cons v3 a3 vs3 ks3 h3 ht3 =>
   cases ht3; cases h1; cases h2; cases h3
   obtain ⟨e1,e2⟩ := bysV_size hy
   have e3 := Nat.eq_of_beq_eq_true hs
   rw [e1]
   exact (made_calls (c0 :: ys) (by omega) n k w c0 rfl (Nat.le_of_ble_eq_true hn) (Nat.le_of_ble_eq_true h1k) (Nat.le_of_ble_eq_true hk6)).mono fun e w' ⟨h1,h2⟩ => ⟨[.string _],h1,h2,.cons _ _ _ _ (.p _) .nil⟩
  ·cases he
 ·cases he
theorem ok55 : FnOK Try.prog Y0 55 := by
 refine fnOK_lib e55 rfl (by kernel_rfl) (fun xs rs he m h w hR args hd => ?_)
 unfold e55 at he
 split at he
 ·rename_i s
  split at he
  ·rename_i hb
   cases he
   cases hd with
   | cons v a vs ks h1 ht =>
   cases ht; cases h1
   exact (opposite_calls s w (Nat.le_of_ble_eq_true hb)).mono fun e w' ⟨h1,h2⟩ => ⟨[.string _],h1,h2,.cons _ _ _ _ (.p _) .nil⟩
  ·cases he
 ·cases he
theorem idens61 {B bo n : Nat} {V : Nat → Value} {rows : Nat → List (List UInt8)} {w : World} (h : RowsAt B bo n V rows w) (hne : ∀ i,i < n + 1 → rows i ≠ []) : ∀ {L : List Nat},(∀ i ∈ L,i < n + 1) → IDens B w (L.map V) (L.map fun i => (rows i).map strV)
 | [],_ => .nil
 | i :: L,hL => by
  have hi := hL i List.mem_cons_self
  have hr := h.row i hi
  obtain ⟨g,cap,cur,hV,hB,hb,h1,h2,h3,h4⟩ := own_some hr (fun e => hne i hi (List.length_eq_zero_iff.1 e))
  have hc : ∀ j,j < ((rows i).map strV).length → ((rows i).map strV).getD j undef = cur.getD (0 + j) undef := fun j hj => by
   have hj' : j < (rows i).length := by simpa using hj
   have e1 : (cur.toList.take ((rows i).length * 1))[j]? = ((rows i).map strV)[j]? := by rw [h4]; rfl
   rw [List.getElem?_take,if_pos (by omega),Array.getElem?_toList] at e1
   rw [List.getD_eq_getElem?_getD,← e1,Nat.zero_add]
   simp [Array.getD_eq_getD_getElem?]
  have key := IDens.cons (n := B) (w := w) g 0 cap ((rows i).map strV) cur 9 (0,0) (L.map V) (L.map fun i => (rows i).map strV) (by simpa using h1) hB hb (by simp; omega) hc (idens61 h hne fun j hj => hL j (List.mem_cons_of_mem _ hj))
  rw [List.length_map,← hV] at key
  exact key
theorem ok61 : FnOK Try.prog Y0 61 := by
 refine fnOK_lib e61 rfl (by kernel_rfl) (fun xs rs he m h w hR args hd => ?_)
 unfold e61 at he
 split at he
 ·rename_i s
  split at he
  ·rename_i hb hx
   cases he
   cases hd with
   | cons v a vs ks h1 ht =>
   cases ht; cases h1
   have hs := Nat.le_of_ble_eq_true hb
   refine (all_calls s w hs (fun x hx' => Nat.le_of_ble_eq_true (List.all_eq_true.1 hx x hx'))).mono fun e w' ⟨V,h1,h2,h3⟩ => ⟨[_],h1,h2,.cons _ _ _ _ ?_ .nil⟩
   have hlen : s.data.toList.length = s.size := by simp
   have hne : ∀ i,i < s.size + 1 → srtT (s.size + 1) (allR s.size s.data.toList) i ≠ [] := fun i hi e => by
    have h := ((allR_mem (n := s.size) (l := s.data.toList) (by omega)).2 i (s.data.toList.take i)).2 ⟨List.take_sublist _ _,by rw [List.length_take]; omega⟩
    unfold srtT at e
    rw [if_pos hi] at e
    have h2 := srt_mem.2 h
    rw [e] at h2
    cases h2
   obtain ⟨C,c1,c2,c3⟩ := h3.out
   have hI := idens61 h3 hne (L := List.range (s.size + 1)) (fun i hi => List.mem_range.1 hi)
   have hcss : (rows61 s.data.toList).map (fun l => l.map strV) = (List.range (s.size + 1)).map fun i => (srtT (s.size + 1) (allR s.size s.data.toList) i).map strV := by
    unfold rows61
    rw [List.map_map,hlen]
    refine List.map_congr_left fun i hi => ?_
    have := List.mem_range.1 hi
    simp only [Function.comp,srtT,if_pos this]
   rw [hcss]
   have key := RDen.ll (n := w.heap.size) (w := w') (w.heap.size + 1) 0 (s.size + 1) _ _ C 36 (0,0) hI (by simp) (by omega) c1 (by simp; omega) (fun i hi => by
    have hi' : i < s.size + 1 := by simpa using hi
    rw [Nat.zero_add,List.getD_eq_getElem?_getD,List.getElem?_map,List.getElem?_range hi']
    simp [Array.getD_eq_getD_getElem?,c3 i hi'])
   rw [List.length_map,List.length_range] at key
   exact key
  ·cases he
 ·cases he
theorem keysS_ok : ∀ {es : List MapEntry} {ks : List (List UInt8)},keysS es = some ks → es.map (·.key) = ks.map strV
 | [],ks,h => by cases h; rfl
 | e :: l,ks,h => by
  unfold keysS at h
  split at h
  ·rename_i k r h1 h2
   cases h
   rw [List.map_cons,List.map_cons,keysS_ok h2]
   congr 1
   unfold keyS at h1
   split at h1
   ·rename_i s e1
    cases h1
    rw [e1]
    unfold strV
    simp
   ·cases h1
  ·cases h
theorem ok52 : FnOK Try.prog Y0 52 := by
 refine fnOK_lib e52 rfl (by kernel_rfl) (fun xs rs he m h w hR args hd => ?_)
 unfold e52 at he
 split at he
 ·rename_i es c n
  split at he
  ·rename_i ks hks
   split at he
   ·rename_i hok
    cases he
    cases hd with
    | cons v a vs ks' h1 ht =>
    cases ht with
    | cons v2 a2 vs2 ks2 h2 ht2 =>
    cases ht2; cases h2
    cases h1 with
    | m bm _ _ hbm =>
    unfold ok52B at hok
    simp only [Bool.and_eq_true,decide_eq_true_eq] at hok
    obtain ⟨⟨⟨⟨o1,o2⟩,o3⟩,o4⟩,o5⟩ := hok
    refine (ofSize_calls bm es c n ks w hbm (keysS_ok hks) o1 o2 o3 o4 o5).mono fun e w' ⟨v,q1,q2,q3⟩ => ⟨[v],q1,q2,.cons _ _ _ _ ?_ .nil⟩
    have hn0 : (ofs n ks).length ≠ 0 := by
     unfold ofs
     rw [show (srt (ks.filter fun k => decide (k.length = n))).length = (ks.filter fun k => decide (k.length = n)).length by simp [srt]]
     exact fun e => o5 (List.length_eq_zero_iff.1 e)
    obtain ⟨g,cap,cur,rfl,hB,hb,h1,h2,h3,h4⟩ := own_some52 q3 hn0
    have hc : ∀ j,j < ((ofs n ks).map strV).length → ((ofs n ks).map strV).getD j undef = cur.getD (0 + j) undef := fun j hj => by
     have hj' : j < (ofs n ks).length := by simpa using hj
     have e1 : (cur.toList.take ((ofs n ks).length * 1))[j]? = ((ofs n ks).map strV)[j]? := by
      unfold ofs
      rw [h4]; rfl
     rw [List.getElem?_take,if_pos (by omega),Array.getElem?_toList] at e1
     rw [List.getD_eq_getElem?_getD,← e1,Nat.zero_add]
     simp [Array.getD_eq_getD_getElem?]
    have key := RDen.l (n := w.heap.size) (w := w') g 0 cap ((ofs n ks).map strV) cur 9 (0,0) (by rw [List.length_map]; exact h1) hB hb (by rw [List.length_map]; unfold ofs; omega) hc
    rw [List.length_map] at key
    exact key
   ·cases he
  ·cases he
 ·cases he
theorem decM_ok : ∀ {es : List MapEntry} {m : Mp (List UInt8) Int},decM es = some m → es = mE sV (Value.int .i64) m
 | [],m,h => by cases h; rfl
 | e :: l,m,h => by
  unfold decM at h
  split at h
  ·rename_i s v r h1 h2 h3
   cases h
   have hr := decM_ok h3
   unfold mE at hr ⊢
   rw [List.map_cons,← hr]
   congr 1
   obtain ⟨k,w,b⟩ := e
   simp only at h1 h2 ⊢
   rw [h1,h2]
  ·cases h
theorem slt_total {a b : List UInt8} (h1 : ¬ slt a b) (h2 : ¬ slt b a) : a = b := by
 unfold slt at h1 h2
 have hl : a.length = b.length := by
  rcases Nat.lt_trichotomy a.length b.length with h | h | h
  ·exact absurd (.inl h) h1
  ·exact h
  ·exact absurd (.inl h) h2
 refine List.le_antisymm (List.not_lt.1 fun h => h2 (.inr ⟨hl.symm,h⟩)) (List.not_lt.1 fun h => h1 (.inr ⟨hl,h⟩))
theorem bst_ok {D : List UInt8 → Bool} : ∀ {l L : List (List UInt8)} {s : List UInt8 × Bool},Bst D L s.1 s.2 → Bst D (L ++ l) (bst D l s).1 (bst D l s).2
 | [],L,s,h => by rw [List.append_nil]; exact h
 | k :: l,L,(b,is),h => by
  rw [show L ++ k :: l = (L ++ [k]) ++ l by simp,bst]
  cases hc : D k && (!is || decide (slt k b)) with
  | true =>
   dsimp only
   rw [Bool.and_eq_true,Bool.or_eq_true,Bool.not_eq_true',decide_eq_true_iff] at hc
   exact bst_ok (s := (k,true)) (bst_take h hc.1 hc.2)
  | false =>
   dsimp only
   refine bst_ok (s := (b,is)) (bst_skip h ?_)
   rw [Bool.and_eq_false_iff,Bool.or_eq_false_iff,Bool.not_eq_false',decide_eq_false_iff_not] at hc
   exact hc
theorem bst_uniq {D : List UInt8 → Bool} {L L' : List (List UInt8)} {b b' : List UInt8} {is is' : Bool} (h : Bst D L b is) (h' : Bst D L' b' is') (hL : ∀ k,k ∈ L ↔ k ∈ L') : b = b' ∧ is = is' := by
 cases is <;> cases is'
 ·exact ⟨by rw [h.1,h'.1],rfl⟩
 ·have h1 := h.2 b' ((hL b').2 h'.1)
  rw [h'.2.1] at h1; cases h1
 ·have h1 := h'.2 b ((hL b).1 h.1)
  rw [h.2.1] at h1; cases h1
 ·exact ⟨slt_total (h'.2.2 b ((hL b).1 h.1) h.2.1) (h.2.2 b' ((hL b').2 h'.1) h'.2.1),rfl⟩
theorem ok49 : FnOK Try.prog Y0 49 := by
 refine fnOK_lib e49 rfl (by kernel_rfl) (fun xs rs he m h w hR args hd => ?_)
 unfold e49 at he
 split at he
 ·rename_i es1 c1 es2 c2
  split at he
  ·rename_i m1 m2 h1 h2
   split at he
   ·rename_i hok
    cases he
    cases hd with
    | cons v a vs ks' k1 ht =>
    cases ht with
    | cons v2 a2 vs2 ks2 k2 ht2 =>
    cases ht2
    cases k1 with
    | m b1 _ _ hb1 =>
    cases k2 with
    | m b2 _ _ hb2 =>
    unfold stOK at hok
    simp only [Bool.and_eq_true,decide_eq_true_eq] at hok
    rw [decM_ok h1] at hb1
    rw [decM_ok h2] at hb2
    refine (first_calls b1 b2 c1 c2 m1 m2 w hb1 hb2 hok.1 hok.2).mono fun e w' ⟨L,b,is,q1,q2,q3,q4⟩ => ⟨[.string ⟨b.toArray⟩,.bool is],q1,q2, ?_⟩
    have hB := bst_ok (D := dif49 m1 m2) (l := m1.map (·.1) ++ m2.map (·.1)) (L := []) (s := ([],false)) ⟨rfl,fun k hk => by cases hk⟩
    obtain ⟨e1,e2⟩ := bst_uniq q4 hB (fun k => by rw [q3 k,List.nil_append,List.mem_append])
    rw [e1,e2]
    exact .cons _ _ _ _ (.p _) (.cons _ _ _ _ (.p _) .nil)
   ·cases he
  ·cases he
 ·cases he
theorem ext_ok (g : FuncId) (hy : Y0.yes g = true) : FnOK Try.prog Y0 g := by
 have h : (Nat.beq g 17 || Nat.beq g 48 || Nat.beq g 51 || Nat.beq g 53 || Nat.beq g 55 || Nat.beq g 56 || Nat.beq g 61 || Nat.beq g 52 || Nat.beq g 49 || Nat.beq g 70 || Nat.beq g 44) = true := hy
 simp only [Bool.or_eq_true] at h
 rcases h with (((((((((h | h) | h) | h) | h) | h) | h) | h) | h) | h) | h <;> cases Nat.eq_of_beq_eq_true h
 ·exact ok17
 ·exact ok48
 ·exact ok51
 ·exact ok53
 ·exact ok55
 ·exact ok56
 ·exact ok61
 ·exact ok52
 ·exact ok49
 ·exact ok70
 ·exact ok44
end Go.Proofs.Ytmnmfmghmenkkaa
set_option linter.unusedSimpArgs false
set_option linter.unusedVariables false
set_option linter.unusedSectionVars false
namespace Go.Proofs.Ytmnmfmghmenkkaa
open Go.Abs Go.Pur Go.ChangeShapes Go.WideShapes Go.ChangeAt Go.RowKit
set_option maxRecDepth 100000
theorem ok : progOK Try.prog = true := by kernel_rfl
theorem laidOut : laidOutB Try.prog = true := by kernel_rfl
theorem grOf (l : List Blk) : GR Try.prog Y0 (C0 Try.prog (tabs ++ l).length) (heapOf (tabs ++ l)) := fun g cs hg => by
 simp [Y0] at hg
theorem law_true {W : World} (hS : W.ShapedOpen Try.prog) {f : FuncId} {us : List PV} {vs : List Value} {hp' : List (Option (List PV))} {wl : Option Nat} (hA : ArgsIn W vs us) (hE : E Try.prog Y0 f us [] = some (.v (.bool true),hp',wl)) :
  Calls Try.prog f vs.toArray W fun e W' => e = .returned (.bool true) ∧ Below W.heap.size W W' :=
 pure_true mix ok ext_ok (G := tabs) (GL := tabLocs) (by simp [tabs]) rfl tabs_wr (fun l ls h1 h2 => start hS l ls h1 h2) grOf hA hE
section
variable {H : Type} {enc : TypeId × Value → H} {W : World} {r : Reach} {b0 : Nat}
theorem arg_str {v : Value} {d : DataW H} {ps : List MemPlace} (hv : Value.okWide Try.prog W r b0 9 v) (h : DataW.Trod enc Try.prog W 0 (fun _ => true) true 9 v d ps) : ∃ s : ByteArray,ArgIn W v (.v (.string s)) := by
 obtain ⟨s,rfl⟩ := okWide_string Try.underlying9 hv
 exact ⟨s,.one _ _ (.plain _ rfl (fun _ _ e => by cases e))⟩
theorem arg_int3 {v : Value} {d : DataW H} {ps : List MemPlace} (hv : Value.okWide Try.prog W r b0 3 v) (h : DataW.Trod enc Try.prog W 0 (fun _ => true) true 3 v d ps) : ∃ z : Int,ArgIn W v (.v (.int .i64 z)) := by
 obtain ⟨z,_,h1,_⟩ := arg_int Try.underlying3 hv h
 exact ⟨z,h1⟩
end
end Go.Proofs.Ytmnmfmghmenkkaa
set_option linter.unusedSimpArgs false
set_option linter.unusedVariables false
set_option linter.unusedSectionVars false
namespace Go.Proofs.Ytmnmfmghmenkkaa
open Go.Abs Go.Pur Go.ChangeShapes Go.WideShapes Go.ChangeAt Go.RowKit
set_option maxRecDepth 100000
section
variable {H : Type} {enc : TypeId × Value → H} {W : World} {r : Reach} {b0 : Nat}
end
section
variable {H : Type} {enc : TypeId × Value → H} {P : Program} {w : World} {base : Nat} {spare : Nat → Bool} {held : Bool}
theorem trodAll_five {t t' t'' t3 t4 : TypeId} {args : Array Value} {ds : List (DataW H)} {ps : List MemPlace} (h : DataW.TrodAll enc P w base spare held [t,t',t'',t3,t4] args.toList ds ps) :
  ∃ v v' v'' v3 v4 d d' d'' d3 d4 p p' p'' p3 p4,args = #[v,v',v'',v3,v4] ∧ ds = [d,d',d'',d3,d4] ∧ ps = p ++ (p' ++ (p'' ++ (p3 ++ p4))) ∧ DataW.Trod enc P w base spare held t v d p ∧ DataW.Trod enc P w base spare held t' v' d' p' ∧ DataW.Trod enc P w base spare held t'' v'' d'' p'' ∧ DataW.Trod enc P w base spare held t3 v3 d3 p3 ∧ DataW.Trod enc P w base spare held t4 v4 d4 p4 := by
 obtain ⟨v,vs,d,ds',p,q,hargs,rfl,rfl,hd,h1⟩ := trodAll_cons h
 obtain ⟨v',vs',d',ds'',p',q',rfl,rfl,rfl,hd',h2⟩ := trodAll_cons h1
 obtain ⟨v2,vs2,d2,ds2,p2,q2,rfl,rfl,rfl,hd2,h3⟩ := trodAll_cons h2
 obtain ⟨v3,vs3,d3,ds3,p3,q3,rfl,rfl,rfl,hd3,h4⟩ := trodAll_cons h3
 obtain ⟨v4,vs4,d4,ds4,p4,q4,rfl,rfl,rfl,hd4,h5⟩ := trodAll_cons h4
 obtain ⟨rfl,rfl,rfl⟩ := trodAll_nil h5
 exact ⟨v,v',v2,v3,v4,d,d',d2,d3,d4,p,p',p2,p3,p4,by cases args; simp_all,rfl,by simp,hd,hd',hd2,hd3,hd4⟩
theorem trodAll_mk5 {t t' t'' t3 t4 : TypeId} {v v' v'' v3 v4 : Value} {d d' d'' d3 d4 : DataW H} {p p' p'' p3 p4 : List MemPlace} (h : DataW.Trod enc P w base spare held t v d p) (h' : DataW.Trod enc P w base spare held t' v' d' p')
  (h'' : DataW.Trod enc P w base spare held t'' v'' d'' p'') (h3 : DataW.Trod enc P w base spare held t3 v3 d3 p3) (h4 : DataW.Trod enc P w base spare held t4 v4 d4 p4) : DataW.TrodAll enc P w base spare held [t,t',t'',t3,t4] [v,v',v'',v3,v4] [d,d',d'',d3,d4] (p ++ (p' ++ (p'' ++ (p3 ++ p4)))) := ⟨p,_,h,⟨p',_,h',trodAll_mk3 h'' h3 h4,rfl⟩,rfl⟩
end
end Go.Proofs.Ytmnmfmghmenkkaa
set_option linter.unusedSimpArgs false
set_option linter.unusedVariables false
set_option linter.unusedSectionVars false
namespace Go.Proofs.Ytmnmfmghmenkkaa
open Go.Abs Go.Pur Go.ChangeShapes Go.WideShapes Go.ChangeAt Go.RowKit
set_option maxRecDepth 100000
section
variable {H : Type} {enc : TypeId × Value → H} {P : Program} {W : World} {held : Bool}
def bytesOf : Value → List UInt8
 | .string s => s.data.toList
 | _ => []
theorem cells_strs {t e : TypeId} {fuel : Nat} {cs : List Value} {x : DataW H × List MemPlace} (ht : P.underlying t = some (.slice e)) (he : P.underlying e = some .string) (hc : P.cellsOf e = 1)
  (h : DataW.trod enc P W 0 (fun _ => true) held fuel t cs = some x) : ∃ (v : Value) (zs : List (List UInt8)),cs = [v] ∧ CellIn W v (.l .fz .any zs.length (zs.map tv)) := by
 rcases Go.Deep.open_slice1 ht hc h with ⟨rfl,_⟩ | ⟨a,len,cap,m,n,V,D,Pl,rfl,_,hl,hm,hmm,_,hV⟩
 ·exact ⟨_,[],rfl,.nil⟩
 ·simp only [if_true] at hmm
  subst hmm
  have hi : ∀ i,i < len → W.cell? (a.add i) = some (.string (bs (bytesOf (V i)))) := fun i hi => by
   obtain ⟨h1,h2⟩ := hV i (by omega)
   obtain ⟨z,e1,_,e2⟩ := DataW.trod_string he h2
   simp only [List.cons.injEq,and_true] at e1
   rw [e1] at h1 ⊢
   exact h1
  refine ⟨_,(List.range len).map fun i => bytesOf (V i),rfl, ?_⟩
  have := CellIn.slice (W := W) a len m (((List.range len).map fun i => bytesOf (V i)).map fun b => .string (bs b)) hl (Nat.lt_of_le_of_lt (Nat.le_trans hl hm) (by decide)) (by rintro rfl; rfl) (fun h0 e => by simp at e; exact h0 e) (fun j v hj => by
    simp only [List.getElem?_map,Option.map_eq_some_iff] at hj
    obtain ⟨z,⟨i,hi1,rfl⟩,rfl⟩ := hj
    obtain ⟨hlt,rfl⟩ := List.getElem?_eq_some_iff.1 hi1
    simp at hlt
    refine ⟨by simpa using (hi j hlt),rfl,fun _ _ e => by cases e⟩)
  simpa [List.map_map,Function.comp_def,tv] using this
end
section
variable {H : Type} {enc : TypeId × Value → H} {W : World} {r : Reach} {b0 : Nat}
theorem arg_strs {v : Value} {d : DataW H} {ps : List MemPlace} (hv : Value.okWide Try.prog W r b0 36 v) (h : DataW.Trod enc Try.prog W 0 (fun _ => true) true 36 v d ps) : ∃ l : List (List UInt8),ArgIn W v (.l .fz .any l.length (l.map tv)) := by
 obtain ⟨a,len,cap,rfl⟩ := okWide_slice Try.underlying36 hv
 obtain ⟨fuel,h⟩ := h
 obtain ⟨v,zs,e1,e2⟩ := cells_strs Try.underlying36 Try.underlying9 (by kernel_rfl) h
 simp [Value.cells] at e1
 subst e1
 exact ⟨zs,.one _ _ e2⟩
end
end Go.Proofs.Ytmnmfmghmenkkaa
set_option linter.unusedSimpArgs false
set_option linter.unusedVariables false
namespace Go.Proofs.Ytmnmfmghmenkkaa
open Go.Abs Go.Pur
set_option maxRecDepth 100000
def fst2 (a b : List UInt8) : List UInt8 × Bool := fst49 (prtM a (2 ^ a.length)).1 (prtM b (2 ^ b.length)).1
theorem tel_dif {a b q : List UInt8} : Tel a b q ↔ dif49 (prtM a (2 ^ a.length)).1 (prtM b (2 ^ b.length)).1 q = true := by
 rw [tel_left]
 unfold dif49
 have h : ∀ w : List UInt8,decide (0 < mGetD 0 q (prtM w (2 ^ w.length)).1) = leftW w q := fun w => by
  cases h : leftW w q with
  | true => exact decide_eq_true (prtM_has.2 h)
  | false => exact decide_eq_false fun h2 => by rw [prtM_has.1 h2] at h; cases h
 rw [h a,h b]
 cases leftW a q <;> cases leftW b q <;> simp
theorem key_of {w q : List UInt8} (h : leftW w q = true) : q ∈ (prtM w (2 ^ w.length)).1.map (·.1) := prtM_keys.2 (tkN_all (leftW_sub.1 h))
theorem tel_key {a b q : List UInt8} (h : Tel a b q) : q ∈ (prtM a (2 ^ a.length)).1.map (·.1) ++ (prtM b (2 ^ b.length)).1.map (·.1) := by
 rw [tel_left] at h
 cases h1 : leftW a q with
 | true => exact List.mem_append_left _ (key_of h1)
 | false =>
  refine List.mem_append_right _ (key_of ?_)
  rw [h1] at h
  cases h2 : leftW b q with
  | true => rfl
  | false => exact absurd h2.symm h
theorem tel_in {a b q : List UInt8} (h : Tel a b q) : q.Sublist a ∨ q.Sublist b := by
 rw [tel_left] at h
 cases h1 : leftW a q with
 | true => exact .inl (leftW_sub.1 h1)
 | false =>
  rw [h1] at h
  cases h2 : leftW b q with
  | true => exact .inr (leftW_sub.1 h2)
  | false => exact absurd h2.symm h
theorem first_two {a b : List UInt8} : ((fst2 a b).2 = true ∧ Tel a b (fst2 a b).1 ∧ ∀ q,Tel a b q → ¬ slt q (fst2 a b).1) ∨ ((fst2 a b).2 = false ∧ a = b) := by
 have h := bst_ok (D := dif49 (prtM a (2 ^ a.length)).1 (prtM b (2 ^ b.length)).1) (l := (prtM a (2 ^ a.length)).1.map (·.1) ++ (prtM b (2 ^ b.length)).1.map (·.1)) (L := []) (s := ([],false)) ⟨rfl,fun k hk => by cases hk⟩
 have e : bst (dif49 (prtM a (2 ^ a.length)).1 (prtM b (2 ^ b.length)).1) ((prtM a (2 ^ a.length)).1.map (·.1) ++ (prtM b (2 ^ b.length)).1.map (·.1)) ([],false) = fst2 a b := rfl
 rw [e,List.nil_append] at h
 cases hs : (fst2 a b).2 with
 | true =>
  rw [hs] at h
  exact .inl ⟨rfl,tel_dif.2 h.2.1,fun q hq => h.2.2 q (tel_key hq) (tel_dif.1 hq)⟩
 | false =>
  rw [hs] at h
  refine .inr ⟨rfl, ?_⟩
  have hno : ∀ q,¬ Tel a b q := fun q hq => by
   have := h.2 q (tel_key hq)
   rw [tel_dif.1 hq] at this
   cases this
  have h1 : leftW b a = true := by
   have := hno a
   rw [tel_left,leftW_sub.2 (List.Sublist.refl a)] at this
   cases h2 : leftW b a with
   | true => rfl
   | false => rw [h2] at this; exact absurd (by simp) this
  have h2 : leftW a b = true := by
   have := hno b
   rw [tel_left,leftW_sub.2 (List.Sublist.refl b)] at this
   cases h2 : leftW a b with
   | true => rfl
   | false => rw [h2] at this; exact absurd (by simp) this
  exact (leftW_sub.1 h1).eq_of_length_le (leftW_sub.1 h2).length_le
section
variable {a b : List UInt8} (ha : a.length ≤ 10) (hb : b.length ≤ 10) (hla : ∀ c ∈ a, c ∈ lets 6) (hlb : ∀ c ∈ b, c ∈ lets 6)
include ha hb hla hlb
set_option linter.unusedSectionVars false
theorem bfs_at {p : List UInt8} (ht : Tel a b p) (hmin : ∀ q,Tel a b q → ¬ slt q p) {most : Int} : bfs0 a b most = if (p.length : Int) ≤ most then some p else none := by
 have hpl : ∀ c ∈ p,c ∈ lets 6 := fun c hc => by
  rcases tel_in ht with h | h
  ·exact hla c (h.subset hc)
  ·exact hlb c (h.subset hc)
 by_cases h : (p.length : Int) ≤ most
 ·rw [if_pos h]; exact bfs_first ha hb ht hmin hpl h
 ·rw [if_neg h]
  cases hr : bfs0 a b most with
  | none => rfl
  | some r =>
   obtain ⟨h1,h2⟩ := bfs0_sound hr
   exact absurd (.inl (by omega)) (hmin r h1)
omit hla hlb ha hb in
theorem bfs_same {most : Int} : bfs0 a a most = none := by
 cases hr : bfs0 a a most with
 | none => rfl
 | some r => exact absurd rfl (bfs0_sound hr).1
theorem f70_at {most : Int} (hm : most ≤ 10) : f70O a b most = some ((bfs0 a b most).getD [],(bfs0 a b most).isSome) := by
 unfold f70O
 rw [decide_eq_true ha,decide_eq_true hb,decide_eq_true hm]
 rfl
theorem f40_law {F : Nat} (hF : 3 ≤ F) : f40S F a b = some (match bfs0 a b 10 with | some p => (p,0) | none => ([],13)) := by
 unfold f40S
 rw [f57_ok hF (checkW_ok ha hla) (checkW_ok hb hlb),Option.bind_some,Option.bind_some,decide_eq_true rfl]
 dsimp only
 rw [f70_at ha hb hla hlb (by omega),Option.bind_some]
 cases bfs0 a b 10 <;> rfl
theorem f42_law {F : Nat} (hF : 3 ≤ F) {v : Nat} (hv : v ≤ 10) : f42S F a b (v : Int) = some (!(bfs0 a b v).isSome,0) := by
 unfold f42S
 rw [f57_ok hF (checkW_ok ha hla) (checkW_ok hb hlb),Option.bind_some,Option.bind_some,decide_eq_true rfl]
 dsimp only
 rw [Option.bind_some,decide_eq_false (by omega)]
 dsimp only
 rw [Option.bind_some,decide_eq_false (by omega)]
 dsimp only
 rw [f70_at ha hb hla hlb (by omega),Option.bind_some]
end
end Go.Proofs.Ytmnmfmghmenkkaa
set_option linter.unusedSimpArgs false
set_option linter.unusedVariables false
namespace Go.Proofs.Ytmnmfmghmenkkaa
open Go.Abs Go.Pur
set_option maxRecDepth 100000
set_option maxHeartbeats 2000000
attribute [local simp] Go.Pur.EK_region Go.Pur.EK_seq Go.Pur.EK_cond Go.Pur.EK_block Go.Pur.EK_blk Go.Pur.EK_loop Go.Pur.EK_exit EK.ex Go.Pur.EK_ret Go.Pur.EK_skip Go.Pur.EK_nil Go.Pur.EO_cons Go.Pur.EO_nil Go.Pur.EO1_true Go.Pur.EO1_false Go.Pur.EO2_some Go.Pur.EO3_some Go.Pur.EB_true Go.Pur.EB_false Go.Pur.pwanted Go.Pur.poper Go.Pur.pq Go.Pur.pev Go.Pur.look Go.Pur.pputT Go.Pur.isAssign Go.Pur.drOf Go.Pur.pinit Go.Abs.Tr.get_set Go.Pur.lget Go.Pur.pvOf_int Go.Pur.pvOf_bool Go.Pur.pvOf_str Go.Pur.pvOf_nil Go.Pur.rdv_ak Go.Pur.notOwn_ak Go.Pur.prt_ak Go.Pur.loose_ak Go.Pur.rdv_own Go.Pur.rdv_fz Go.Pur.rdv_bor Go.Pur.rdv_rf Go.Pur.rdv_pt Go.Pur.rdv_v Go.Pur.rdv_a Go.Pur.rdv_t Go.Pur.rdv_r Go.Pur.rdv_p Go.Pur.rdv_s Go.Pur.rdv_f Go.Pur.pbin Go.Pur.plen Go.Pur.pload Go.Pur.ppart Go.Pur.idxAddr Go.Pur.pcond Nat.blt Go.Pur.goInt_eq Go.Pur.prun_not Go.Pur.prun_neg Go.Pur.mayLoad Go.Pur.ER_ret Go.Pur.ER_normal Go.Pur.presL Go.Pur.presOne Go.Pur.moved Go.Pur.stor Go.Pur.okDrop Go.Pur.settle_v Go.Pur.settle_l Go.Pur.settle_a Go.Pur.settle_p Go.Pur.settle_f Go.Pur.noref_v Go.Pur.noref_fz Go.Pur.noref_a Go.Pur.norefs_nil Go.Pur.norefs_cons Go.Pur.pclose Go.Pur.given Go.Pur.dropB Y0_keep Go.Pur.pevParts Go.Pur.stors Go.Pur.pvCells pvCells.go Go.Abs.vcells Go.Pur.pfill Go.Pur.reps Go.Pur.zipParts Go.Pur.ownFz Go.Pur.pcells Go.Pur.cellOK Go.Pur.one Go.Pur.psrcLen Go.Pur.srcFits Go.Pur.psrc Go.Pur.takeP Go.Pur.pgrow Go.Pur.take Go.Pur.getPl Go.Pur.setPl Go.Pur.mapL Go.Pur.plEq Go.Pur.elder Go.Pur.isList Go.Pur.lowP Go.Pur.pevs Go.Pur.frzs Go.Pur.addP Go.Pur.partAt Go.Pur.ble_lim24 Go.Pur.killV_v Go.Pur.killV_a Go.Pur.killV_t Go.Pur.killV_f Go.Pur.killV_i Go.Pur.killV_p Go.Pur.killV_s Go.Pur.killV_un Go.Pur.killV_dead Go.Pur.killV_lfz Go.Pur.killV_lbor Go.Pur.killV_lown Go.Pur.killV_rfz Go.Pur.killV_rbor Go.Pur.killV_lak Go.Pur.killV_rak Go.Pur.frzV_v Go.Pur.frzV_a Go.Pur.frzV_t Go.Pur.frzV_f Go.Pur.frzV_i Go.Pur.frzV_p Go.Pur.frzV_s Go.Pur.frzV_un Go.Pur.frzV_dead Go.Pur.frzV_lfz Go.Pur.frzV_lbor Go.Pur.frzV_lown Go.Pur.frzV_rfz Go.Pur.frzV_rbor Go.Pur.frzV_lak Go.Pur.frzV_rak Go.Pur.killCell_v Go.Pur.killCell_a Go.Pur.killCell_t Go.Pur.killCell_f Go.Pur.killCell_i Go.Pur.killCell_p Go.Pur.killCell_s Go.Pur.killCell_un Go.Pur.killCell_dead Go.Pur.killCell_lfz Go.Pur.killCell_lbor Go.Pur.killCell_lown Go.Pur.killCell_rfz Go.Pur.killCell_rbor Go.Pur.killCell_lak Go.Pur.killCell_rak Go.Pur.killV_lrf Go.Pur.killV_lpt Go.Pur.killV_rpt Go.Pur.frzV_lrf Go.Pur.frzV_lpt Go.Pur.frzV_rpt Go.Pur.killCell_lrft Go.Pur.killCell_lptt Go.Pur.killCell_rptt Go.Pur.killCell_lrfc Go.Pur.killCell_lptc Go.Pur.killCell_rptc Go.Pur.argv_lak Go.Pur.argv_rak Go.Pur.argv_v Go.Pur.argv_a Go.Pur.argv_p Go.Pur.argv_f Go.Pur.argv_fz Go.Pur.argv_bor Go.Pur.argv_rf Go.Pur.argv_pt Go.Pur.argv_rc Go.Pur.argv_own Go.Pur.mayTurn_none Go.Pur.argvs Go.Pur.pcallOp Go.Pur.firm Go.Pur.refsTo_v Go.Pur.refsTo_l Go.Pur.refsTo_p Go.Pur.refsTo_s Go.Pur.refsTo_a Go.Pur.refsTo_dead Go.Pur.refsTo_nil Go.Pur.refsTo_cons Go.Pur.isOwn_lak Go.Pur.ownFz_lak Go.Pur.evSafe Go.Pur.pskip Go.Abs.plain Go.Pur.pnewBlk Go.Pur.fldAddr Go.Pur.isOwn Go.Pur.pput Go.Pur.notOwn_fz Go.Pur.notOwn_bor Go.Pur.notOwn_own Go.Pur.notOwn_rf Go.Pur.notOwn_pt Go.Pur.prt_fz Go.Pur.prt_bor Go.Pur.prt_own Go.Pur.prt_rf Go.Pur.prt_pt Go.Pur.freeze Go.Pur.presM Go.Pur.settles Go.Pur.abin_and Go.Pur.abin_or Go.Pur.abin_andNot Go.Pur.abin_mul Go.Pur.abin_shr Go.Pur.abin_shl Go.Pur.abin_add Go.Pur.abin_sub Go.Pur.abin_eql Go.Pur.abin_neq Go.Pur.abin_lss Go.Pur.abin_leq Go.Pur.abin_gtr Go.Pur.abin_geq Go.Pur.hows Go.Pur.pcallIn Y0_how Y0_part howOf partOf Go.Pur.rdv_mown Go.Pur.rdv_mfz Go.Pur.rdv_mbor Go.Pur.rdv_mrf Go.Pur.killV_mown Go.Pur.killV_mfz Go.Pur.killV_mbor Go.Pur.killV_mrf Go.Pur.frzV_mown Go.Pur.frzV_mfz Go.Pur.frzV_mbor Go.Pur.frzV_mrf Go.Pur.killCell_mown Go.Pur.killCell_mfz Go.Pur.killCell_mbor Go.Pur.killCell_mrf Go.Pur.argv_mfz Go.Pur.argv_mbor Go.Pur.argv_mrf Go.Pur.settle_m Go.Pur.kls_v Go.Pur.kls_l Go.Pur.kls_a Go.Pur.kls_t Go.Pur.kls_r Go.Pur.kls_p Go.Pur.kls_s Go.Pur.kls_f Go.Pur.kls_i Go.Pur.kls_it Go.Pur.kls_un Go.Pur.kls_dead Go.Pur.kls_mown Go.Pur.kls_mrf Go.Pur.kls_mbor Go.Pur.kls_mfz Go.Pur.fzOf Go.Pur.takable Go.Pur.mapHere Go.Pur.mapOwn Go.Pur.mapTo Go.Pur.flat Go.Pur.toPlain toPlain.go Go.Pur.ofFlat Go.Pur.ofPair Go.Pur.mapEs Go.Pur.plook Go.Abs.lookRes Y0_mv mvOf Go.Pur.mvBlk Go.Pur.premv Y0_fzm fzmOf Go.Pur.poperX Go.Pur.pconv Go.Pur.mvOp keep41 keep43 keep71 sz3 by3 row3 zero3 sz4 by4 row4 zero4 sz5 by5 row5 zero5 sz9 by9 row9 shape9 zero9 sz21 by21 row21 zero21 sz22 by22 row22 zero22 sz24 by24 row24 zero24 sz29 by29 row29 shape29 zero29 sz36 by36 row36 shape36 zero36 sz52 by52 row52 shape52 zero52 parts52 sz54 by54 row54 zero54 parts54 field54_0 field54_1 sz58 by58 row58 zero58 mt58 az3 sz63 by63 row63 zero63 sz66 by66 row66 shape66 zero66 parts66 sz67 by67 row67 shape67 zero67 sz75 by75 row75 shape75 zero75 sz76 by76 row76 shape76 zero76 sz78 by78 row78 zero78 mt78 sz79 by79 row79 shape79 zero79 sz92 by92 row92 zero92 sz94 by94 row94 zero94 parts94 field94_0 field94_1 sz99 by99 row99 shape99 zero99 sz102 by102 row102 zero102 mt102 az4 sz103 by103 row103 zero103 mt103 sz106 by106 row106 zero106 parts106 field106_0 field106_1 sz108 by108 row108 zero108 parts108 field108_0 field108_1 sz109 by109 row109 shape109 zero109 sz110 by110 row110 zero110 mt110 sz112 by112 row112 zero112 sz115 by115 row115 zero115 sz116 by116 row116 zero116 sz119 by119 row119 zero119 sz127 by127 row127 zero127 sz129 by129 row129 zero129 sz130 by130 row130 zero130 sz134 by134 row134 zero134 Go.Pur.bs_size Go.Pur.gAt Go.Pur.gAt0 Go.Pur.sAt Go.Pur.sAt0 Go.Pur.optPlain Go.Pur.rows_len Go.Pur.noMaker_eq Go.Abs.kindOf Go.Pur.vlOf Go.Pur.abin_rem Go.Pur.abin_quo Go.Pur.mayTurn_none Go.Pur.lowOf_none Go.Pur.partAt Go.Pur.rows_nil Go.Pur.rows_cons Go.Pur.ble_add Go.Pur.ble_add0 Go.Pur.ble_same Go.Pur.toPlain toPlain.go Go.Pur.intIn2_0 Go.Pur.intIn2_1 Go.Pur.ble12 Go.Pur.ble22 Go.Pur.tv Go.Pur.lv Go.Pur.max_int Go.Pur.min_int Go.Pur.pplains Go.Pur.ak_true Go.Pur.ak_false Go.Pur.apartP Go.Pur.beq_add Go.Pur.beq_add0 Go.Pur.beq_add1 Go.Pur.argv_s Go.Pur.wok_none Go.Pur.wok_low_iff Go.Pur.lowOf_wok keep6
theorem bool_neq_4RefApart {x y : Operand} {a b : Bool} : abin Try.prog .neq 4 x y (.bool a) (.bool b) = some (.bool (a != b)) := by cases a <;> cases b <;> kernel_rfl
def f71_L0 (F : Nat) (p0 : List UInt8) (p1 : List UInt8) (p2 : Int) (l5 : List (List UInt8)) (K : List UInt8 × Bool → Option (List UInt8 × Bool)) : Nat → List UInt8 × Bool × Int → Option (List UInt8 × Bool)
  | 0,_ => none
  | n + 1,(v26,b27,v28) => (some ((l5.length : Int))).bind fun x29 =>
    (some (decide (v28 < x29))).bind fun x30 =>
    (match x30 with
    | true => ((gI l5 v28).bind fun y31 =>
    (some ((y31.length : Int))).bind fun x32 =>
    (some (decide (x32 = p2))).bind fun x33 =>
    (match x33 with
    | true => ((f28S F p0 y31).bind fun b34 =>
    (f28S F p1 y31).bind fun b36 =>
    (some ((b34 != b36))).bind fun x38 =>
    (match x38 with
    | true => ((match b27 with
    | true => ((some (Op.bytesLess y31 v26)).bind fun x39 =>
    (match x39 with
    | true => ((some (IntKind.i64.wrap (v28 + 1))).bind fun x40 =>
    f71_L0 F p0 p1 p2 l5 K n (y31,true,x40))
    | false => ((some (IntKind.i64.wrap (v28 + 1))).bind fun x41 =>
    f71_L0 F p0 p1 p2 l5 K n (v26,true,x41))))
    | false => ((some (IntKind.i64.wrap (v28 + 1))).bind fun x42 =>
    f71_L0 F p0 p1 p2 l5 K n (y31,true,x42))))
    | false => ((some (IntKind.i64.wrap (v28 + 1))).bind fun x43 =>
    f71_L0 F p0 p1 p2 l5 K n (v26,b27,x43))))
    | false => ((some (IntKind.i64.wrap (v28 + 1))).bind fun x44 =>
    f71_L0 F p0 p1 p2 l5 K n (v26,b27,x44))))
    | false => (K (v26,b27)))
def f71_L1 (F : Nat) (p0 : List UInt8) (p1 : List UInt8) (p2 : Int) (l5 : List (List UInt8)) (K : List UInt8 × Bool → Option (List UInt8 × Bool)) : Nat → List UInt8 × Bool × Int → Option (List UInt8 × Bool)
  | 0,_ => none
  | n + 1,(v47,b48,v49) => (some ((l5.length : Int))).bind fun x50 =>
    (some (decide (v49 < x50))).bind fun x51 =>
    (match x51 with
    | true => ((gI l5 v49).bind fun y52 =>
    (some ((y52.length : Int))).bind fun x53 =>
    (some (decide (x53 = p2))).bind fun x54 =>
    (match x54 with
    | true => ((f28S F p0 y52).bind fun b55 =>
    (f28S F p1 y52).bind fun b57 =>
    (some ((b55 != b57))).bind fun x59 =>
    (match x59 with
    | true => ((match b48 with
    | true => ((some (Op.bytesLess y52 v47)).bind fun x60 =>
    (match x60 with
    | true => ((some (IntKind.i64.wrap (v49 + 1))).bind fun x61 =>
    f71_L1 F p0 p1 p2 l5 K n (y52,true,x61))
    | false => ((some (IntKind.i64.wrap (v49 + 1))).bind fun x62 =>
    f71_L1 F p0 p1 p2 l5 K n (v47,true,x62))))
    | false => ((some (IntKind.i64.wrap (v49 + 1))).bind fun x63 =>
    f71_L1 F p0 p1 p2 l5 K n (y52,true,x63))))
    | false => ((some (IntKind.i64.wrap (v49 + 1))).bind fun x64 =>
    f71_L1 F p0 p1 p2 l5 K n (v47,b48,x64))))
    | false => ((some (IntKind.i64.wrap (v49 + 1))).bind fun x65 =>
    f71_L1 F p0 p1 p2 l5 K n (v47,b48,x65))))
    | false => (K (v47,b48)))
def f71_L2 (F : Nat) (p0 : List UInt8) (p1 : List UInt8) (p2 : Int) (l5 : List (List UInt8)) (K : List UInt8 × Bool → Option (List UInt8 × Bool)) : Nat → List UInt8 × Bool × Int → Option (List UInt8 × Bool)
  | 0,_ => none
  | n + 1,(v68,b69,v70) => (some ((l5.length : Int))).bind fun x71 =>
    (some (decide (v70 < x71))).bind fun x72 =>
    (match x72 with
    | true => ((gI l5 v70).bind fun y73 =>
    (some ((y73.length : Int))).bind fun x74 =>
    (some (decide (x74 = p2))).bind fun x75 =>
    (match x75 with
    | true => ((f28S F p0 y73).bind fun b76 =>
    (f28S F p1 y73).bind fun b78 =>
    (some ((b76 != b78))).bind fun x80 =>
    (match x80 with
    | true => ((match b69 with
    | true => ((some (Op.bytesLess y73 v68)).bind fun x81 =>
    (match x81 with
    | true => ((some (IntKind.i64.wrap (v70 + 1))).bind fun x82 =>
    f71_L2 F p0 p1 p2 l5 K n (y73,true,x82))
    | false => ((some (IntKind.i64.wrap (v70 + 1))).bind fun x83 =>
    f71_L2 F p0 p1 p2 l5 K n (v68,true,x83))))
    | false => ((some (IntKind.i64.wrap (v70 + 1))).bind fun x84 =>
    f71_L2 F p0 p1 p2 l5 K n (y73,true,x84))))
    | false => ((some (IntKind.i64.wrap (v70 + 1))).bind fun x85 =>
    f71_L2 F p0 p1 p2 l5 K n (v68,b69,x85))))
    | false => ((some (IntKind.i64.wrap (v70 + 1))).bind fun x86 =>
    f71_L2 F p0 p1 p2 l5 K n (v68,b69,x86))))
    | false => (K (v68,b69)))
def f71_L3 (F : Nat) (p0 : List UInt8) (p1 : List UInt8) (p2 : Int) (x89 : List (List UInt8)) (K : List UInt8 × Bool → Option (List UInt8 × Bool)) : Nat → List UInt8 × Bool × Int → Option (List UInt8 × Bool)
  | 0,_ => none
  | n + 1,(v102,b103,v104) => (some ((x89.length : Int))).bind fun x105 =>
    (some (decide (v104 < x105))).bind fun x106 =>
    (match x106 with
    | true => ((gI x89 v104).bind fun y107 =>
    (some ((y107.length : Int))).bind fun x108 =>
    (some (decide (x108 = p2))).bind fun x109 =>
    (match x109 with
    | true => ((f28S F p0 y107).bind fun b110 =>
    (f28S F p1 y107).bind fun b112 =>
    (some ((b110 != b112))).bind fun x114 =>
    (match x114 with
    | true => ((match b103 with
    | true => ((some (Op.bytesLess y107 v102)).bind fun x115 =>
    (match x115 with
    | true => ((some (IntKind.i64.wrap (v104 + 1))).bind fun x116 =>
    f71_L3 F p0 p1 p2 x89 K n (y107,true,x116))
    | false => ((some (IntKind.i64.wrap (v104 + 1))).bind fun x117 =>
    f71_L3 F p0 p1 p2 x89 K n (v102,true,x117))))
    | false => ((some (IntKind.i64.wrap (v104 + 1))).bind fun x118 =>
    f71_L3 F p0 p1 p2 x89 K n (y107,true,x118))))
    | false => ((some (IntKind.i64.wrap (v104 + 1))).bind fun x119 =>
    f71_L3 F p0 p1 p2 x89 K n (v102,b103,x119))))
    | false => ((some (IntKind.i64.wrap (v104 + 1))).bind fun x120 =>
    f71_L3 F p0 p1 p2 x89 K n (v102,b103,x120))))
    | false => (K (v102,b103)))
def f71_L4 (F : Nat) (p0 : List UInt8) (p1 : List UInt8) (p2 : Int) (x89 : List (List UInt8)) (K : List UInt8 × Bool → Option (List UInt8 × Bool)) : Nat → List UInt8 × Bool × Int → Option (List UInt8 × Bool)
  | 0,_ => none
  | n + 1,(v123,b124,v125) => (some ((x89.length : Int))).bind fun x126 =>
    (some (decide (v125 < x126))).bind fun x127 =>
    (match x127 with
    | true => ((gI x89 v125).bind fun y128 =>
    (some ((y128.length : Int))).bind fun x129 =>
    (some (decide (x129 = p2))).bind fun x130 =>
    (match x130 with
    | true => ((f28S F p0 y128).bind fun b131 =>
    (f28S F p1 y128).bind fun b133 =>
    (some ((b131 != b133))).bind fun x135 =>
    (match x135 with
    | true => ((match b124 with
    | true => ((some (Op.bytesLess y128 v123)).bind fun x136 =>
    (match x136 with
    | true => ((some (IntKind.i64.wrap (v125 + 1))).bind fun x137 =>
    f71_L4 F p0 p1 p2 x89 K n (y128,true,x137))
    | false => ((some (IntKind.i64.wrap (v125 + 1))).bind fun x138 =>
    f71_L4 F p0 p1 p2 x89 K n (v123,true,x138))))
    | false => ((some (IntKind.i64.wrap (v125 + 1))).bind fun x139 =>
    f71_L4 F p0 p1 p2 x89 K n (y128,true,x139))))
    | false => ((some (IntKind.i64.wrap (v125 + 1))).bind fun x140 =>
    f71_L4 F p0 p1 p2 x89 K n (v123,b124,x140))))
    | false => ((some (IntKind.i64.wrap (v125 + 1))).bind fun x141 =>
    f71_L4 F p0 p1 p2 x89 K n (v123,b124,x141))))
    | false => (K (v123,b124)))
def f71_L5 (F : Nat) (p0 : List UInt8) (p1 : List UInt8) (p2 : Int) (x89 : List (List UInt8)) (K : List UInt8 × Bool → Option (List UInt8 × Bool)) : Nat → List UInt8 × Bool × Int → Option (List UInt8 × Bool)
  | 0,_ => none
  | n + 1,(v144,b145,v146) => (some ((x89.length : Int))).bind fun x147 =>
    (some (decide (v146 < x147))).bind fun x148 =>
    (match x148 with
    | true => ((gI x89 v146).bind fun y149 =>
    (some ((y149.length : Int))).bind fun x150 =>
    (some (decide (x150 = p2))).bind fun x151 =>
    (match x151 with
    | true => ((f28S F p0 y149).bind fun b152 =>
    (f28S F p1 y149).bind fun b154 =>
    (some ((b152 != b154))).bind fun x156 =>
    (match x156 with
    | true => ((match b145 with
    | true => ((some (Op.bytesLess y149 v144)).bind fun x157 =>
    (match x157 with
    | true => ((some (IntKind.i64.wrap (v146 + 1))).bind fun x158 =>
    f71_L5 F p0 p1 p2 x89 K n (y149,true,x158))
    | false => ((some (IntKind.i64.wrap (v146 + 1))).bind fun x159 =>
    f71_L5 F p0 p1 p2 x89 K n (v144,true,x159))))
    | false => ((some (IntKind.i64.wrap (v146 + 1))).bind fun x160 =>
    f71_L5 F p0 p1 p2 x89 K n (y149,true,x160))))
    | false => ((some (IntKind.i64.wrap (v146 + 1))).bind fun x161 =>
    f71_L5 F p0 p1 p2 x89 K n (v144,b145,x161))))
    | false => ((some (IntKind.i64.wrap (v146 + 1))).bind fun x162 =>
    f71_L5 F p0 p1 p2 x89 K n (v144,b145,x162))))
    | false => (K (v144,b145)))
def f71S (F : Nat) (p0 : List UInt8) (p1 : List UInt8) (p2 : Int) : Option (List UInt8 × Bool) :=
  (some ((p0.length : Int))).bind fun x1 =>
  (some (IntKind.i64.wrap (x1 + 1))).bind fun x2 =>
  (some (min p2 x2)).bind fun x3 =>
  (f63S F F p0 x3).bind fun (c4,l5) =>
  (match c4 with
    | .nz => ((some ((p1.length : Int))).bind fun x7 =>
  (some (IntKind.i64.wrap (x7 + 1))).bind fun x8 =>
  (some (min p2 x8)).bind fun x9 =>
  (f63S F F p1 x9).bind fun (c10,l11) =>
  (match c10 with
    | .nz => ((some (l11.isEmpty)).bind fun x13 =>
  (match x13 with
  | true => ((some (l5.isEmpty)).bind fun x14 =>
  (match x14 with
  | true => (some ([],false))
  | false => ((some ((l5.length : Int))).bind fun x16 =>
  (some (decide (0 < x16))).bind fun x17 =>
  (match x17 with
  | true => ((gI l5 0).bind fun y18 =>
  (some ((y18.length : Int))).bind fun x19 =>
  (some (decide (x19 = p2))).bind fun x20 =>
  (match x20 with
  | true => ((f28S F p0 y18).bind fun b21 =>
  (f28S F p1 y18).bind fun b23 =>
  (some ((b21 != b23))).bind fun x25 =>
  (match x25 with
  | true => (f71_L0 F p0 p1 p2 l5 (fun (v45,b46) =>
    some (v45,b46)) F (y18,true,1))
  | false => (f71_L1 F p0 p1 p2 l5 (fun (v66,b67) =>
    some (v66,b67)) F ([],false,1))))
  | false => (f71_L2 F p0 p1 p2 l5 (fun (v87,b88) =>
    some (v87,b88)) F ([],false,1))))
  | false => (some ([],false))))))
  | false => ((appL l5 l11).bind fun x89 =>
  (some (x89.isEmpty)).bind fun x90 =>
  (match x90 with
  | true => (some ([],false))
  | false => ((some ((x89.length : Int))).bind fun x92 =>
  (some (decide (0 < x92))).bind fun x93 =>
  (match x93 with
  | true => ((gI x89 0).bind fun y94 =>
  (some ((y94.length : Int))).bind fun x95 =>
  (some (decide (x95 = p2))).bind fun x96 =>
  (match x96 with
  | true => ((f28S F p0 y94).bind fun b97 =>
  (f28S F p1 y94).bind fun b99 =>
  (some ((b97 != b99))).bind fun x101 =>
  (match x101 with
  | true => (f71_L3 F p0 p1 p2 x89 (fun (v121,b122) =>
    some (v121,b122)) F (y94,true,1))
  | false => (f71_L4 F p0 p1 p2 x89 (fun (v142,b143) =>
    some (v142,b143)) F ([],false,1))))
  | false => (f71_L5 F p0 p1 p2 x89 (fun (v163,b164) =>
    some (v163,b164)) F ([],false,1))))
  | false => (some ([],false))))))))
    | _ => none))
    | _ => none)
theorem f71_is {p0 : List UInt8} {p1 : List UInt8} {p2 : Int} {hp : List (Option (List PV))} {F : Nat} {r : (List UInt8 × Bool)}  (h : f71S F p0 p1 p2 = some r) :
    E Try.prog Y0 71 [.v (.string (bs p0)),.v (.string (bs p1)),iv p2] hp = some (.t [.v (.string (bs r.1)),.v (.bool r.2)],hp,none) := by
  rw [E_bodyN 3 body71 rfl (by decide) rfl]
  simp only [Try.f71,Option.get_some]
  unfold f71S at h
  replace h := bindT h; obtain ⟨x1,ex1,h⟩ := h
  replace h := bindT h; obtain ⟨x2,ex2,h⟩ := h
  replace h := bindT h; obtain ⟨x3,ex3,h⟩ := h
  replace h := bind_ok h; obtain ⟨⟨c4,l5⟩,e6,h⟩ := h
  try dsimp only at h
  have e6 : ∀ hp,E Try.prog Y0 63 [.v (.string (bs p0)),iv x3] hp = some (.l (vlOf c4) c4 l5.length (l5.map tv),hp,none) := fun hp => f63_is  e6
  cases c4 with
  | full => cases h
  | any => cases h
  | nz =>
    try dsimp only at h
    replace h := bindT h; obtain ⟨x7,ex7,h⟩ := h
    replace h := bindT h; obtain ⟨x8,ex8,h⟩ := h
    replace h := bindT h; obtain ⟨x9,ex9,h⟩ := h
    replace h := bind_ok h; obtain ⟨⟨c10,l11⟩,e12,h⟩ := h
    try dsimp only at h
    have e12 : ∀ hp,E Try.prog Y0 63 [.v (.string (bs p1)),iv x9] hp = some (.l (vlOf c10) c10 l11.length (l11.map tv),hp,none) := fun hp => f63_is  e12
    cases c10 with
    | full => cases h
    | any => cases h
    | nz =>
      try dsimp only at h
      replace h := bindT h; obtain ⟨x13,ex13,h⟩ := h
      cases x13
      case true =>
       obtain rfl := List.isEmpty_iff.1 ex13
       simp [ex1,ex2,ex3,e6,ex7,ex8,ex9,e12]
       rw [EK_lp]
       replace h := bindT h; obtain ⟨x14,ex14,h⟩ := h
       cases x14
       case true =>
        obtain rfl := List.isEmpty_iff.1 ex14
        obtain rfl := inj_ok h
        simp [ex1,ex2,ex3,e6,ex7,ex8,ex9,e12]
       have hz15 := beq_emp ex14
       have hl0 : l5.length = l5.length := rfl
       replace h := bindT h; obtain ⟨x16,ex16,h⟩ := h
       replace h := bindT h; obtain ⟨x17,ex17,h⟩ := h
       cases x17
       case false =>
        obtain rfl := inj_ok h
        simp [ex1,ex2,ex3,e6,ex7,ex8,ex9,e12,hz15,unset,klV,take,ex16,ex17]
       replace h := bind_ok h; obtain ⟨y18,ey18,h⟩ := h
       obtain ⟨ey18a,ey18b,ey18c⟩ := gI_lit (k := 0) hl0 ey18
       have ey18a : ∀ j,intIn l5.length (.int j 0) = some 0 := ey18a
       replace h := bindT h; obtain ⟨x19,ex19,h⟩ := h
       replace h := bindT h; obtain ⟨x20,ex20,h⟩ := h
       cases x20
       case false =>
        have w1 : IntKind.i64.wrap (1) = 1 := rfl
        simp [ex1,ex2,ex3,e6,ex7,ex8,ex9,e12,hz15,unset,klV,take,ex16,ex17,ey18a,ey18b,ey18c,tv,ex19,ex20,w1]
        have hL2 := h; clear h
        refine loopS (S := f71_L2 F p0 p1 p2 l5) (fun (v68,b69,v70) σ => ∃ (ts : Tr PV) (w : Option Nat),wok hp.length w ∧ σ = ⟨[],ts,hp ++ [some (l5.map tv)],w⟩ ∧ ts.get 0 = some (.v (.string (bs p0))) ∧ ts.get 1 = some (.v (.string (bs p1))) ∧ ts.get 2 = some (iv p2) ∧ ts.get 8 = some (.v (.string (bs v68))) ∧ ts.get 9 = some (.v (.bool b69)) ∧ ts.get 10 = some (.s hp.length 0 l5.length unkCap) ∧ ts.get 11 = some (iv v70) ∧ l5.length = l5.length ∧ True) (fun (v87,b88) σ => ∃ (ts : Tr PV) (w : Option Nat),wok hp.length w ∧ σ = ⟨[],ts,hp ++ [some (l5.map tv)],w⟩ ∧ ts.get 8 = some (.v (.string (bs v87))) ∧ ts.get 9 = some (.v (.bool b88)) ∧ l5.length = l5.length ∧ True) (fun _ => rfl) hL2 ?_ ?_ ?_
        · exact ⟨_,_,by simp,rfl,by simp [ex1,ex2,ex3,e6,ex7,ex8,ex9,e12,hz15,unset,klV,take,ex16,ex17,ey18a,ey18b,ey18c,tv,ex19,ex20,w1]⟩
        · rintro ⟨v87,b88⟩ σ ⟨ts,w,hw,rfl,g8,g9,hl0,-⟩ h
          clear hL2
          try dsimp only at h
          obtain rfl := inj_ok h
          simp [g8,g9,hl0,hw]
        · rintro k n ⟨v68,b69,v70⟩ σ ⟨ts,w,hw,rfl,g0,g1,g2,g8,g9,g10,g11,hl0,-⟩ h ih ex
          clear hL2
          rw [f71_L2.eq_def] at h; dsimp only at h
          replace h := bindT h; obtain ⟨x71,ex71,h⟩ := h
          replace h := bindT h; obtain ⟨x72,ex72,h⟩ := h
          cases x72
          case false =>
           simp [g0,g1,g2,g8,g9,g10,g11,hl0,ex71,ex72]
           refine ex (v68,b69) _ ?_ h
           exact ⟨_,_,by simp [hw],rfl,by simp [g0,g1,g2,g8,g9,g10,g11,hl0,ex71,ex72]⟩
          replace h := bind_ok h; obtain ⟨y73,ey73,h⟩ := h
          obtain ⟨ey73a,ey73e,ey73b,ey73c,ey73g⟩ := gI_ok hl0 ey73
          replace h := bindT h; obtain ⟨x74,ex74,h⟩ := h
          replace h := bindT h; obtain ⟨x75,ex75,h⟩ := h
          cases x75
          case false =>
           replace h := bindT h; obtain ⟨x86,ex86,h⟩ := h
           simp [g0,g1,g2,g8,g9,g10,g11,hl0,ex71,ex72,ey73a,ey73b,ey73c,tv,ex74,ex75,ex86]
           refine ih (v68,b69,x86) _ ?_ h
           exact ⟨_,_,by simp [hw],rfl,by simp [g0,g1,g2,g8,g9,g10,g11,hl0,ex71,ex72,ey73a,ey73b,ey73c,tv,ex74,ex75,ex86]⟩
          replace h := bind_ok h; obtain ⟨b76,e77,h⟩ := h
          have e77 : ∀ hp,E Try.prog Y0 28 [.v (.string (bs p0)),.v (.string (bs y73))] hp = some (.v (.bool b76),hp,none) := fun hp => f28_is  e77
          replace h := bind_ok h; obtain ⟨b78,e79,h⟩ := h
          have e79 : ∀ hp,E Try.prog Y0 28 [.v (.string (bs p1)),.v (.string (bs y73))] hp = some (.v (.bool b78),hp,none) := fun hp => f28_is  e79
          replace h := bindT h; obtain ⟨x80,ex80,h⟩ := h
          cases x80
          case false =>
           replace h := bindT h; obtain ⟨x85,ex85,h⟩ := h
           simp [g0,g1,g2,g8,g9,g10,g11,hl0,ex71,ex72,ey73a,ey73b,ey73c,tv,ex74,ex75,e77,e79,bool_neq_4RefApart,ex80,ex85]
           refine ih (v68,b69,x85) _ ?_ h
           exact ⟨_,_,by simp [hw],rfl,by simp [g0,g1,g2,g8,g9,g10,g11,hl0,ex71,ex72,ey73a,ey73b,ey73c,tv,ex74,ex75,e77,e79,bool_neq_4RefApart,ex80,ex85]⟩
          cases b69
          case false =>
           replace h := bindT h; obtain ⟨x84,ex84,h⟩ := h
           simp [g0,g1,g2,g8,g9,g10,g11,hl0,ex71,ex72,ey73a,ey73b,ey73c,tv,ex74,ex75,e77,e79,bool_neq_4RefApart,ex80,ex84]
           refine ih (y73,true,x84) _ ?_ h
           exact ⟨_,_,by simp [hw],rfl,by simp [g0,g1,g2,g8,g9,g10,g11,hl0,ex71,ex72,ey73a,ey73b,ey73c,tv,ex74,ex75,e77,e79,bool_neq_4RefApart,ex80,ex84]⟩
          replace h := bind_ok h; obtain ⟨x81,ex81,h⟩ := h
          have ex81 := inj_ok ex81
          cases x81
          case true =>
           replace h := bindT h; obtain ⟨x82,ex82,h⟩ := h
           simp [g0,g1,g2,g8,g9,g10,g11,hl0,ex71,ex72,ey73a,ey73b,ey73c,tv,ex74,ex75,e77,e79,bool_neq_4RefApart,ex80,ex81,abin_slss,ex82]
           refine ih (y73,true,x82) _ ?_ h
           exact ⟨_,_,by simp [hw],rfl,by simp [g0,g1,g2,g8,g9,g10,g11,hl0,ex71,ex72,ey73a,ey73b,ey73c,tv,ex74,ex75,e77,e79,bool_neq_4RefApart,ex80,ex81,abin_slss,ex82]⟩
          replace h := bindT h; obtain ⟨x83,ex83,h⟩ := h
          simp [g0,g1,g2,g8,g9,g10,g11,hl0,ex71,ex72,ey73a,ey73b,ey73c,tv,ex74,ex75,e77,e79,bool_neq_4RefApart,ex80,ex81,abin_slss,ex83]
          refine ih (v68,true,x83) _ ?_ h
          exact ⟨_,_,by simp [hw],rfl,by simp [g0,g1,g2,g8,g9,g10,g11,hl0,ex71,ex72,ey73a,ey73b,ey73c,tv,ex74,ex75,e77,e79,bool_neq_4RefApart,ex80,ex81,abin_slss,ex83]⟩
       replace h := bind_ok h; obtain ⟨b21,e22,h⟩ := h
       have e22 : ∀ hp,E Try.prog Y0 28 [.v (.string (bs p0)),.v (.string (bs y18))] hp = some (.v (.bool b21),hp,none) := fun hp => f28_is  e22
       replace h := bind_ok h; obtain ⟨b23,e24,h⟩ := h
       have e24 : ∀ hp,E Try.prog Y0 28 [.v (.string (bs p1)),.v (.string (bs y18))] hp = some (.v (.bool b23),hp,none) := fun hp => f28_is  e24
       replace h := bindT h; obtain ⟨x25,ex25,h⟩ := h
       cases x25
       case true =>
        have w1 : IntKind.i64.wrap (1) = 1 := rfl
        simp [ex1,ex2,ex3,e6,ex7,ex8,ex9,e12,hz15,unset,klV,take,ex16,ex17,ey18a,ey18b,ey18c,tv,ex19,ex20,e22,e24,bool_neq_4RefApart,ex25,w1]
        have hL0 := h; clear h
        refine loopS (S := f71_L0 F p0 p1 p2 l5) (fun (v26,b27,v28) σ => ∃ (ts : Tr PV) (w : Option Nat),wok hp.length w ∧ σ = ⟨[],ts,hp ++ [some (l5.map tv)],w⟩ ∧ ts.get 0 = some (.v (.string (bs p0))) ∧ ts.get 1 = some (.v (.string (bs p1))) ∧ ts.get 2 = some (iv p2) ∧ ts.get 8 = some (.v (.string (bs v26))) ∧ ts.get 9 = some (.v (.bool b27)) ∧ ts.get 10 = some (.s hp.length 0 l5.length unkCap) ∧ ts.get 11 = some (iv v28) ∧ l5.length = l5.length ∧ True) (fun (v45,b46) σ => ∃ (ts : Tr PV) (w : Option Nat),wok hp.length w ∧ σ = ⟨[],ts,hp ++ [some (l5.map tv)],w⟩ ∧ ts.get 8 = some (.v (.string (bs v45))) ∧ ts.get 9 = some (.v (.bool b46)) ∧ l5.length = l5.length ∧ True) (fun _ => rfl) hL0 ?_ ?_ ?_
        · exact ⟨_,_,by simp,rfl,by simp [ex1,ex2,ex3,e6,ex7,ex8,ex9,e12,hz15,unset,klV,take,ex16,ex17,ey18a,ey18b,ey18c,tv,ex19,ex20,e22,e24,bool_neq_4RefApart,ex25,w1]⟩
        · rintro ⟨v45,b46⟩ σ ⟨ts,w,hw,rfl,g8,g9,hl0,-⟩ h
          clear hL0
          try dsimp only at h
          obtain rfl := inj_ok h
          simp [g8,g9,hl0,hw]
        · rintro k n ⟨v26,b27,v28⟩ σ ⟨ts,w,hw,rfl,g0,g1,g2,g8,g9,g10,g11,hl0,-⟩ h ih ex
          clear hL0
          rw [f71_L0.eq_def] at h; dsimp only at h
          replace h := bindT h; obtain ⟨x29,ex29,h⟩ := h
          replace h := bindT h; obtain ⟨x30,ex30,h⟩ := h
          cases x30
          case false =>
           simp [g0,g1,g2,g8,g9,g10,g11,hl0,ex29,ex30]
           refine ex (v26,b27) _ ?_ h
           exact ⟨_,_,by simp [hw],rfl,by simp [g0,g1,g2,g8,g9,g10,g11,hl0,ex29,ex30]⟩
          replace h := bind_ok h; obtain ⟨y31,ey31,h⟩ := h
          obtain ⟨ey31a,ey31e,ey31b,ey31c,ey31g⟩ := gI_ok hl0 ey31
          replace h := bindT h; obtain ⟨x32,ex32,h⟩ := h
          replace h := bindT h; obtain ⟨x33,ex33,h⟩ := h
          cases x33
          case false =>
           replace h := bindT h; obtain ⟨x44,ex44,h⟩ := h
           simp [g0,g1,g2,g8,g9,g10,g11,hl0,ex29,ex30,ey31a,ey31b,ey31c,tv,ex32,ex33,ex44]
           refine ih (v26,b27,x44) _ ?_ h
           exact ⟨_,_,by simp [hw],rfl,by simp [g0,g1,g2,g8,g9,g10,g11,hl0,ex29,ex30,ey31a,ey31b,ey31c,tv,ex32,ex33,ex44]⟩
          replace h := bind_ok h; obtain ⟨b34,e35,h⟩ := h
          have e35 : ∀ hp,E Try.prog Y0 28 [.v (.string (bs p0)),.v (.string (bs y31))] hp = some (.v (.bool b34),hp,none) := fun hp => f28_is  e35
          replace h := bind_ok h; obtain ⟨b36,e37,h⟩ := h
          have e37 : ∀ hp,E Try.prog Y0 28 [.v (.string (bs p1)),.v (.string (bs y31))] hp = some (.v (.bool b36),hp,none) := fun hp => f28_is  e37
          replace h := bindT h; obtain ⟨x38,ex38,h⟩ := h
          cases x38
          case false =>
           replace h := bindT h; obtain ⟨x43,ex43,h⟩ := h
           simp [g0,g1,g2,g8,g9,g10,g11,hl0,ex29,ex30,ey31a,ey31b,ey31c,tv,ex32,ex33,e35,e37,bool_neq_4RefApart,ex38,ex43]
           refine ih (v26,b27,x43) _ ?_ h
           exact ⟨_,_,by simp [hw],rfl,by simp [g0,g1,g2,g8,g9,g10,g11,hl0,ex29,ex30,ey31a,ey31b,ey31c,tv,ex32,ex33,e35,e37,bool_neq_4RefApart,ex38,ex43]⟩
          cases b27
          case false =>
           replace h := bindT h; obtain ⟨x42,ex42,h⟩ := h
           simp [g0,g1,g2,g8,g9,g10,g11,hl0,ex29,ex30,ey31a,ey31b,ey31c,tv,ex32,ex33,e35,e37,bool_neq_4RefApart,ex38,ex42]
           refine ih (y31,true,x42) _ ?_ h
           exact ⟨_,_,by simp [hw],rfl,by simp [g0,g1,g2,g8,g9,g10,g11,hl0,ex29,ex30,ey31a,ey31b,ey31c,tv,ex32,ex33,e35,e37,bool_neq_4RefApart,ex38,ex42]⟩
          replace h := bind_ok h; obtain ⟨x39,ex39,h⟩ := h
          have ex39 := inj_ok ex39
          cases x39
          case true =>
           replace h := bindT h; obtain ⟨x40,ex40,h⟩ := h
           simp [g0,g1,g2,g8,g9,g10,g11,hl0,ex29,ex30,ey31a,ey31b,ey31c,tv,ex32,ex33,e35,e37,bool_neq_4RefApart,ex38,ex39,abin_slss,ex40]
           refine ih (y31,true,x40) _ ?_ h
           exact ⟨_,_,by simp [hw],rfl,by simp [g0,g1,g2,g8,g9,g10,g11,hl0,ex29,ex30,ey31a,ey31b,ey31c,tv,ex32,ex33,e35,e37,bool_neq_4RefApart,ex38,ex39,abin_slss,ex40]⟩
          replace h := bindT h; obtain ⟨x41,ex41,h⟩ := h
          simp [g0,g1,g2,g8,g9,g10,g11,hl0,ex29,ex30,ey31a,ey31b,ey31c,tv,ex32,ex33,e35,e37,bool_neq_4RefApart,ex38,ex39,abin_slss,ex41]
          refine ih (v26,true,x41) _ ?_ h
          exact ⟨_,_,by simp [hw],rfl,by simp [g0,g1,g2,g8,g9,g10,g11,hl0,ex29,ex30,ey31a,ey31b,ey31c,tv,ex32,ex33,e35,e37,bool_neq_4RefApart,ex38,ex39,abin_slss,ex41]⟩
       have w1 : IntKind.i64.wrap (1) = 1 := rfl
       simp [ex1,ex2,ex3,e6,ex7,ex8,ex9,e12,hz15,unset,klV,take,ex16,ex17,ey18a,ey18b,ey18c,tv,ex19,ex20,e22,e24,bool_neq_4RefApart,ex25,w1]
       have hL1 := h; clear h
       refine loopS (S := f71_L1 F p0 p1 p2 l5) (fun (v47,b48,v49) σ => ∃ (ts : Tr PV) (w : Option Nat),wok hp.length w ∧ σ = ⟨[],ts,hp ++ [some (l5.map tv)],w⟩ ∧ ts.get 0 = some (.v (.string (bs p0))) ∧ ts.get 1 = some (.v (.string (bs p1))) ∧ ts.get 2 = some (iv p2) ∧ ts.get 8 = some (.v (.string (bs v47))) ∧ ts.get 9 = some (.v (.bool b48)) ∧ ts.get 10 = some (.s hp.length 0 l5.length unkCap) ∧ ts.get 11 = some (iv v49) ∧ l5.length = l5.length ∧ True) (fun (v66,b67) σ => ∃ (ts : Tr PV) (w : Option Nat),wok hp.length w ∧ σ = ⟨[],ts,hp ++ [some (l5.map tv)],w⟩ ∧ ts.get 8 = some (.v (.string (bs v66))) ∧ ts.get 9 = some (.v (.bool b67)) ∧ l5.length = l5.length ∧ True) (fun _ => rfl) hL1 ?_ ?_ ?_
       · exact ⟨_,_,by simp,rfl,by simp [ex1,ex2,ex3,e6,ex7,ex8,ex9,e12,hz15,unset,klV,take,ex16,ex17,ey18a,ey18b,ey18c,tv,ex19,ex20,e22,e24,bool_neq_4RefApart,ex25,w1]⟩
       · rintro ⟨v66,b67⟩ σ ⟨ts,w,hw,rfl,g8,g9,hl0,-⟩ h
         clear hL1
         try dsimp only at h
         obtain rfl := inj_ok h
         simp [g8,g9,hl0,hw]
       · rintro k n ⟨v47,b48,v49⟩ σ ⟨ts,w,hw,rfl,g0,g1,g2,g8,g9,g10,g11,hl0,-⟩ h ih ex
         clear hL1
         rw [f71_L1.eq_def] at h; dsimp only at h
         replace h := bindT h; obtain ⟨x50,ex50,h⟩ := h
         replace h := bindT h; obtain ⟨x51,ex51,h⟩ := h
         cases x51
         case false =>
          simp [g0,g1,g2,g8,g9,g10,g11,hl0,ex50,ex51]
          refine ex (v47,b48) _ ?_ h
          exact ⟨_,_,by simp [hw],rfl,by simp [g0,g1,g2,g8,g9,g10,g11,hl0,ex50,ex51]⟩
         replace h := bind_ok h; obtain ⟨y52,ey52,h⟩ := h
         obtain ⟨ey52a,ey52e,ey52b,ey52c,ey52g⟩ := gI_ok hl0 ey52
         replace h := bindT h; obtain ⟨x53,ex53,h⟩ := h
         replace h := bindT h; obtain ⟨x54,ex54,h⟩ := h
         cases x54
         case false =>
          replace h := bindT h; obtain ⟨x65,ex65,h⟩ := h
          simp [g0,g1,g2,g8,g9,g10,g11,hl0,ex50,ex51,ey52a,ey52b,ey52c,tv,ex53,ex54,ex65]
          refine ih (v47,b48,x65) _ ?_ h
          exact ⟨_,_,by simp [hw],rfl,by simp [g0,g1,g2,g8,g9,g10,g11,hl0,ex50,ex51,ey52a,ey52b,ey52c,tv,ex53,ex54,ex65]⟩
         replace h := bind_ok h; obtain ⟨b55,e56,h⟩ := h
         have e56 : ∀ hp,E Try.prog Y0 28 [.v (.string (bs p0)),.v (.string (bs y52))] hp = some (.v (.bool b55),hp,none) := fun hp => f28_is  e56
         replace h := bind_ok h; obtain ⟨b57,e58,h⟩ := h
         have e58 : ∀ hp,E Try.prog Y0 28 [.v (.string (bs p1)),.v (.string (bs y52))] hp = some (.v (.bool b57),hp,none) := fun hp => f28_is  e58
         replace h := bindT h; obtain ⟨x59,ex59,h⟩ := h
         cases x59
         case false =>
          replace h := bindT h; obtain ⟨x64,ex64,h⟩ := h
          simp [g0,g1,g2,g8,g9,g10,g11,hl0,ex50,ex51,ey52a,ey52b,ey52c,tv,ex53,ex54,e56,e58,bool_neq_4RefApart,ex59,ex64]
          refine ih (v47,b48,x64) _ ?_ h
          exact ⟨_,_,by simp [hw],rfl,by simp [g0,g1,g2,g8,g9,g10,g11,hl0,ex50,ex51,ey52a,ey52b,ey52c,tv,ex53,ex54,e56,e58,bool_neq_4RefApart,ex59,ex64]⟩
         cases b48
         case false =>
          replace h := bindT h; obtain ⟨x63,ex63,h⟩ := h
          simp [g0,g1,g2,g8,g9,g10,g11,hl0,ex50,ex51,ey52a,ey52b,ey52c,tv,ex53,ex54,e56,e58,bool_neq_4RefApart,ex59,ex63]
          refine ih (y52,true,x63) _ ?_ h
          exact ⟨_,_,by simp [hw],rfl,by simp [g0,g1,g2,g8,g9,g10,g11,hl0,ex50,ex51,ey52a,ey52b,ey52c,tv,ex53,ex54,e56,e58,bool_neq_4RefApart,ex59,ex63]⟩
         replace h := bind_ok h; obtain ⟨x60,ex60,h⟩ := h
         have ex60 := inj_ok ex60
         cases x60
         case true =>
          replace h := bindT h; obtain ⟨x61,ex61,h⟩ := h
          simp [g0,g1,g2,g8,g9,g10,g11,hl0,ex50,ex51,ey52a,ey52b,ey52c,tv,ex53,ex54,e56,e58,bool_neq_4RefApart,ex59,ex60,abin_slss,ex61]
          refine ih (y52,true,x61) _ ?_ h
          exact ⟨_,_,by simp [hw],rfl,by simp [g0,g1,g2,g8,g9,g10,g11,hl0,ex50,ex51,ey52a,ey52b,ey52c,tv,ex53,ex54,e56,e58,bool_neq_4RefApart,ex59,ex60,abin_slss,ex61]⟩
         replace h := bindT h; obtain ⟨x62,ex62,h⟩ := h
         simp [g0,g1,g2,g8,g9,g10,g11,hl0,ex50,ex51,ey52a,ey52b,ey52c,tv,ex53,ex54,e56,e58,bool_neq_4RefApart,ex59,ex60,abin_slss,ex62]
         refine ih (v47,true,x62) _ ?_ h
         exact ⟨_,_,by simp [hw],rfl,by simp [g0,g1,g2,g8,g9,g10,g11,hl0,ex50,ex51,ey52a,ey52b,ey52c,tv,ex53,ex54,e56,e58,bool_neq_4RefApart,ex59,ex60,abin_slss,ex62]⟩
      replace h := bind_ok h; obtain ⟨x89,ex89,h⟩ := h
      obtain ⟨ex89a,ex89b,ex89c,ex89d,ex89f,ex89q⟩ := appL_ok tv ex89
      have ex89c := ex89c 18 (by decide)
      simp [ex1,ex2,ex3,e6,ex7,ex8,ex9,e12,ex13,ex89a,ex89b,ex89c,ex89d,ex89f]
      rw [EK_lp]
      replace h := bindT h; obtain ⟨x90,ex90,h⟩ := h
      cases x90
      case true =>
       obtain rfl := List.isEmpty_iff.1 ex90
       obtain rfl := inj_ok h
       simp [ex1,ex2,ex3,e6,ex7,ex8,ex9,e12,ex13,ex89a,ex89b,ex89c,ex89d,ex89f]
      have hz91 := beq_emp ex90
      have hl0 : x89.length = x89.length := rfl
      replace h := bindT h; obtain ⟨x92,ex92,h⟩ := h
      replace h := bindT h; obtain ⟨x93,ex93,h⟩ := h
      cases x93
      case false =>
       obtain rfl := inj_ok h
       simp [ex1,ex2,ex3,e6,ex7,ex8,ex9,e12,ex13,ex89a,ex89b,ex89c,ex89d,ex89f,hz91,unset,klV,take,ex92,ex93]
      replace h := bind_ok h; obtain ⟨y94,ey94,h⟩ := h
      obtain ⟨ey94a,ey94b,ey94c⟩ := gI_lit (k := 0) hl0 ey94
      have ey94a : ∀ j,intIn x89.length (.int j 0) = some 0 := ey94a
      replace h := bindT h; obtain ⟨x95,ex95,h⟩ := h
      replace h := bindT h; obtain ⟨x96,ex96,h⟩ := h
      cases x96
      case false =>
       have w1 : IntKind.i64.wrap (1) = 1 := rfl
       simp [ex1,ex2,ex3,e6,ex7,ex8,ex9,e12,ex13,ex89a,ex89b,ex89c,ex89d,ex89f,hz91,unset,klV,take,ex92,ex93,ey94a,ey94b,ey94c,tv,ex95,ex96,w1]
       have hL5 := h; clear h
       refine loopS (S := f71_L5 F p0 p1 p2 x89) (fun (v144,b145,v146) σ => ∃ (ts : Tr PV) (w : Option Nat),wok hp.length w ∧ σ = ⟨[],ts,hp ++ [some (x89.map tv)],w⟩ ∧ ts.get 0 = some (.v (.string (bs p0))) ∧ ts.get 1 = some (.v (.string (bs p1))) ∧ ts.get 2 = some (iv p2) ∧ ts.get 8 = some (.v (.string (bs v144))) ∧ ts.get 9 = some (.v (.bool b145)) ∧ ts.get 10 = some (.s hp.length 0 x89.length unkCap) ∧ ts.get 11 = some (iv v146) ∧ x89.length = x89.length ∧ True) (fun (v163,b164) σ => ∃ (ts : Tr PV) (w : Option Nat),wok hp.length w ∧ σ = ⟨[],ts,hp ++ [some (x89.map tv)],w⟩ ∧ ts.get 8 = some (.v (.string (bs v163))) ∧ ts.get 9 = some (.v (.bool b164)) ∧ x89.length = x89.length ∧ True) (fun _ => rfl) hL5 ?_ ?_ ?_
       · exact ⟨_,_,by simp,rfl,by simp [ex1,ex2,ex3,e6,ex7,ex8,ex9,e12,ex13,ex89a,ex89b,ex89c,ex89d,ex89f,hz91,unset,klV,take,ex92,ex93,ey94a,ey94b,ey94c,tv,ex95,ex96,w1]⟩
       · rintro ⟨v163,b164⟩ σ ⟨ts,w,hw,rfl,g8,g9,hl0,-⟩ h
         clear hL5
         try dsimp only at h
         obtain rfl := inj_ok h
         simp [g8,g9,hl0,hw]
       · rintro k n ⟨v144,b145,v146⟩ σ ⟨ts,w,hw,rfl,g0,g1,g2,g8,g9,g10,g11,hl0,-⟩ h ih ex
         clear hL5
         rw [f71_L5.eq_def] at h; dsimp only at h
         replace h := bindT h; obtain ⟨x147,ex147,h⟩ := h
         replace h := bindT h; obtain ⟨x148,ex148,h⟩ := h
         cases x148
         case false =>
          simp [g0,g1,g2,g8,g9,g10,g11,hl0,ex147,ex148]
          refine ex (v144,b145) _ ?_ h
          exact ⟨_,_,by simp [hw],rfl,by simp [g0,g1,g2,g8,g9,g10,g11,hl0,ex147,ex148]⟩
         replace h := bind_ok h; obtain ⟨y149,ey149,h⟩ := h
         obtain ⟨ey149a,ey149e,ey149b,ey149c,ey149g⟩ := gI_ok hl0 ey149
         replace h := bindT h; obtain ⟨x150,ex150,h⟩ := h
         replace h := bindT h; obtain ⟨x151,ex151,h⟩ := h
         cases x151
         case false =>
          replace h := bindT h; obtain ⟨x162,ex162,h⟩ := h
          simp [g0,g1,g2,g8,g9,g10,g11,hl0,ex147,ex148,ey149a,ey149b,ey149c,tv,ex150,ex151,ex162]
          refine ih (v144,b145,x162) _ ?_ h
          exact ⟨_,_,by simp [hw],rfl,by simp [g0,g1,g2,g8,g9,g10,g11,hl0,ex147,ex148,ey149a,ey149b,ey149c,tv,ex150,ex151,ex162]⟩
         replace h := bind_ok h; obtain ⟨b152,e153,h⟩ := h
         have e153 : ∀ hp,E Try.prog Y0 28 [.v (.string (bs p0)),.v (.string (bs y149))] hp = some (.v (.bool b152),hp,none) := fun hp => f28_is  e153
         replace h := bind_ok h; obtain ⟨b154,e155,h⟩ := h
         have e155 : ∀ hp,E Try.prog Y0 28 [.v (.string (bs p1)),.v (.string (bs y149))] hp = some (.v (.bool b154),hp,none) := fun hp => f28_is  e155
         replace h := bindT h; obtain ⟨x156,ex156,h⟩ := h
         cases x156
         case false =>
          replace h := bindT h; obtain ⟨x161,ex161,h⟩ := h
          simp [g0,g1,g2,g8,g9,g10,g11,hl0,ex147,ex148,ey149a,ey149b,ey149c,tv,ex150,ex151,e153,e155,bool_neq_4RefApart,ex156,ex161]
          refine ih (v144,b145,x161) _ ?_ h
          exact ⟨_,_,by simp [hw],rfl,by simp [g0,g1,g2,g8,g9,g10,g11,hl0,ex147,ex148,ey149a,ey149b,ey149c,tv,ex150,ex151,e153,e155,bool_neq_4RefApart,ex156,ex161]⟩
         cases b145
         case false =>
          replace h := bindT h; obtain ⟨x160,ex160,h⟩ := h
          simp [g0,g1,g2,g8,g9,g10,g11,hl0,ex147,ex148,ey149a,ey149b,ey149c,tv,ex150,ex151,e153,e155,bool_neq_4RefApart,ex156,ex160]
          refine ih (y149,true,x160) _ ?_ h
          exact ⟨_,_,by simp [hw],rfl,by simp [g0,g1,g2,g8,g9,g10,g11,hl0,ex147,ex148,ey149a,ey149b,ey149c,tv,ex150,ex151,e153,e155,bool_neq_4RefApart,ex156,ex160]⟩
         replace h := bind_ok h; obtain ⟨x157,ex157,h⟩ := h
         have ex157 := inj_ok ex157
         cases x157
         case true =>
          replace h := bindT h; obtain ⟨x158,ex158,h⟩ := h
          simp [g0,g1,g2,g8,g9,g10,g11,hl0,ex147,ex148,ey149a,ey149b,ey149c,tv,ex150,ex151,e153,e155,bool_neq_4RefApart,ex156,ex157,abin_slss,ex158]
          refine ih (y149,true,x158) _ ?_ h
          exact ⟨_,_,by simp [hw],rfl,by simp [g0,g1,g2,g8,g9,g10,g11,hl0,ex147,ex148,ey149a,ey149b,ey149c,tv,ex150,ex151,e153,e155,bool_neq_4RefApart,ex156,ex157,abin_slss,ex158]⟩
         replace h := bindT h; obtain ⟨x159,ex159,h⟩ := h
         simp [g0,g1,g2,g8,g9,g10,g11,hl0,ex147,ex148,ey149a,ey149b,ey149c,tv,ex150,ex151,e153,e155,bool_neq_4RefApart,ex156,ex157,abin_slss,ex159]
         refine ih (v144,true,x159) _ ?_ h
         exact ⟨_,_,by simp [hw],rfl,by simp [g0,g1,g2,g8,g9,g10,g11,hl0,ex147,ex148,ey149a,ey149b,ey149c,tv,ex150,ex151,e153,e155,bool_neq_4RefApart,ex156,ex157,abin_slss,ex159]⟩
      replace h := bind_ok h; obtain ⟨b97,e98,h⟩ := h
      have e98 : ∀ hp,E Try.prog Y0 28 [.v (.string (bs p0)),.v (.string (bs y94))] hp = some (.v (.bool b97),hp,none) := fun hp => f28_is  e98
      replace h := bind_ok h; obtain ⟨b99,e100,h⟩ := h
      have e100 : ∀ hp,E Try.prog Y0 28 [.v (.string (bs p1)),.v (.string (bs y94))] hp = some (.v (.bool b99),hp,none) := fun hp => f28_is  e100
      replace h := bindT h; obtain ⟨x101,ex101,h⟩ := h
      cases x101
      case true =>
       have w1 : IntKind.i64.wrap (1) = 1 := rfl
       simp [ex1,ex2,ex3,e6,ex7,ex8,ex9,e12,ex13,ex89a,ex89b,ex89c,ex89d,ex89f,hz91,unset,klV,take,ex92,ex93,ey94a,ey94b,ey94c,tv,ex95,ex96,e98,e100,bool_neq_4RefApart,ex101,w1]
       have hL3 := h; clear h
       refine loopS (S := f71_L3 F p0 p1 p2 x89) (fun (v102,b103,v104) σ => ∃ (ts : Tr PV) (w : Option Nat),wok hp.length w ∧ σ = ⟨[],ts,hp ++ [some (x89.map tv)],w⟩ ∧ ts.get 0 = some (.v (.string (bs p0))) ∧ ts.get 1 = some (.v (.string (bs p1))) ∧ ts.get 2 = some (iv p2) ∧ ts.get 8 = some (.v (.string (bs v102))) ∧ ts.get 9 = some (.v (.bool b103)) ∧ ts.get 10 = some (.s hp.length 0 x89.length unkCap) ∧ ts.get 11 = some (iv v104) ∧ x89.length = x89.length ∧ True) (fun (v121,b122) σ => ∃ (ts : Tr PV) (w : Option Nat),wok hp.length w ∧ σ = ⟨[],ts,hp ++ [some (x89.map tv)],w⟩ ∧ ts.get 8 = some (.v (.string (bs v121))) ∧ ts.get 9 = some (.v (.bool b122)) ∧ x89.length = x89.length ∧ True) (fun _ => rfl) hL3 ?_ ?_ ?_
       · exact ⟨_,_,by simp,rfl,by simp [ex1,ex2,ex3,e6,ex7,ex8,ex9,e12,ex13,ex89a,ex89b,ex89c,ex89d,ex89f,hz91,unset,klV,take,ex92,ex93,ey94a,ey94b,ey94c,tv,ex95,ex96,e98,e100,bool_neq_4RefApart,ex101,w1]⟩
       · rintro ⟨v121,b122⟩ σ ⟨ts,w,hw,rfl,g8,g9,hl0,-⟩ h
         clear hL3
         try dsimp only at h
         obtain rfl := inj_ok h
         simp [g8,g9,hl0,hw]
       · rintro k n ⟨v102,b103,v104⟩ σ ⟨ts,w,hw,rfl,g0,g1,g2,g8,g9,g10,g11,hl0,-⟩ h ih ex
         clear hL3
         rw [f71_L3.eq_def] at h; dsimp only at h
         replace h := bindT h; obtain ⟨x105,ex105,h⟩ := h
         replace h := bindT h; obtain ⟨x106,ex106,h⟩ := h
         cases x106
         case false =>
          simp [g0,g1,g2,g8,g9,g10,g11,hl0,ex105,ex106]
          refine ex (v102,b103) _ ?_ h
          exact ⟨_,_,by simp [hw],rfl,by simp [g0,g1,g2,g8,g9,g10,g11,hl0,ex105,ex106]⟩
         replace h := bind_ok h; obtain ⟨y107,ey107,h⟩ := h
         obtain ⟨ey107a,ey107e,ey107b,ey107c,ey107g⟩ := gI_ok hl0 ey107
         replace h := bindT h; obtain ⟨x108,ex108,h⟩ := h
         replace h := bindT h; obtain ⟨x109,ex109,h⟩ := h
         cases x109
         case false =>
          replace h := bindT h; obtain ⟨x120,ex120,h⟩ := h
          simp [g0,g1,g2,g8,g9,g10,g11,hl0,ex105,ex106,ey107a,ey107b,ey107c,tv,ex108,ex109,ex120]
          refine ih (v102,b103,x120) _ ?_ h
          exact ⟨_,_,by simp [hw],rfl,by simp [g0,g1,g2,g8,g9,g10,g11,hl0,ex105,ex106,ey107a,ey107b,ey107c,tv,ex108,ex109,ex120]⟩
         replace h := bind_ok h; obtain ⟨b110,e111,h⟩ := h
         have e111 : ∀ hp,E Try.prog Y0 28 [.v (.string (bs p0)),.v (.string (bs y107))] hp = some (.v (.bool b110),hp,none) := fun hp => f28_is  e111
         replace h := bind_ok h; obtain ⟨b112,e113,h⟩ := h
         have e113 : ∀ hp,E Try.prog Y0 28 [.v (.string (bs p1)),.v (.string (bs y107))] hp = some (.v (.bool b112),hp,none) := fun hp => f28_is  e113
         replace h := bindT h; obtain ⟨x114,ex114,h⟩ := h
         cases x114
         case false =>
          replace h := bindT h; obtain ⟨x119,ex119,h⟩ := h
          simp [g0,g1,g2,g8,g9,g10,g11,hl0,ex105,ex106,ey107a,ey107b,ey107c,tv,ex108,ex109,e111,e113,bool_neq_4RefApart,ex114,ex119]
          refine ih (v102,b103,x119) _ ?_ h
          exact ⟨_,_,by simp [hw],rfl,by simp [g0,g1,g2,g8,g9,g10,g11,hl0,ex105,ex106,ey107a,ey107b,ey107c,tv,ex108,ex109,e111,e113,bool_neq_4RefApart,ex114,ex119]⟩
         cases b103
         case false =>
          replace h := bindT h; obtain ⟨x118,ex118,h⟩ := h
          simp [g0,g1,g2,g8,g9,g10,g11,hl0,ex105,ex106,ey107a,ey107b,ey107c,tv,ex108,ex109,e111,e113,bool_neq_4RefApart,ex114,ex118]
          refine ih (y107,true,x118) _ ?_ h
          exact ⟨_,_,by simp [hw],rfl,by simp [g0,g1,g2,g8,g9,g10,g11,hl0,ex105,ex106,ey107a,ey107b,ey107c,tv,ex108,ex109,e111,e113,bool_neq_4RefApart,ex114,ex118]⟩
         replace h := bind_ok h; obtain ⟨x115,ex115,h⟩ := h
         have ex115 := inj_ok ex115
         cases x115
         case true =>
          replace h := bindT h; obtain ⟨x116,ex116,h⟩ := h
          simp [g0,g1,g2,g8,g9,g10,g11,hl0,ex105,ex106,ey107a,ey107b,ey107c,tv,ex108,ex109,e111,e113,bool_neq_4RefApart,ex114,ex115,abin_slss,ex116]
          refine ih (y107,true,x116) _ ?_ h
          exact ⟨_,_,by simp [hw],rfl,by simp [g0,g1,g2,g8,g9,g10,g11,hl0,ex105,ex106,ey107a,ey107b,ey107c,tv,ex108,ex109,e111,e113,bool_neq_4RefApart,ex114,ex115,abin_slss,ex116]⟩
         replace h := bindT h; obtain ⟨x117,ex117,h⟩ := h
         simp [g0,g1,g2,g8,g9,g10,g11,hl0,ex105,ex106,ey107a,ey107b,ey107c,tv,ex108,ex109,e111,e113,bool_neq_4RefApart,ex114,ex115,abin_slss,ex117]
         refine ih (v102,true,x117) _ ?_ h
         exact ⟨_,_,by simp [hw],rfl,by simp [g0,g1,g2,g8,g9,g10,g11,hl0,ex105,ex106,ey107a,ey107b,ey107c,tv,ex108,ex109,e111,e113,bool_neq_4RefApart,ex114,ex115,abin_slss,ex117]⟩
      have w1 : IntKind.i64.wrap (1) = 1 := rfl
      simp [ex1,ex2,ex3,e6,ex7,ex8,ex9,e12,ex13,ex89a,ex89b,ex89c,ex89d,ex89f,hz91,unset,klV,take,ex92,ex93,ey94a,ey94b,ey94c,tv,ex95,ex96,e98,e100,bool_neq_4RefApart,ex101,w1]
      have hL4 := h; clear h
      refine loopS (S := f71_L4 F p0 p1 p2 x89) (fun (v123,b124,v125) σ => ∃ (ts : Tr PV) (w : Option Nat),wok hp.length w ∧ σ = ⟨[],ts,hp ++ [some (x89.map tv)],w⟩ ∧ ts.get 0 = some (.v (.string (bs p0))) ∧ ts.get 1 = some (.v (.string (bs p1))) ∧ ts.get 2 = some (iv p2) ∧ ts.get 8 = some (.v (.string (bs v123))) ∧ ts.get 9 = some (.v (.bool b124)) ∧ ts.get 10 = some (.s hp.length 0 x89.length unkCap) ∧ ts.get 11 = some (iv v125) ∧ x89.length = x89.length ∧ True) (fun (v142,b143) σ => ∃ (ts : Tr PV) (w : Option Nat),wok hp.length w ∧ σ = ⟨[],ts,hp ++ [some (x89.map tv)],w⟩ ∧ ts.get 8 = some (.v (.string (bs v142))) ∧ ts.get 9 = some (.v (.bool b143)) ∧ x89.length = x89.length ∧ True) (fun _ => rfl) hL4 ?_ ?_ ?_
      · exact ⟨_,_,by simp,rfl,by simp [ex1,ex2,ex3,e6,ex7,ex8,ex9,e12,ex13,ex89a,ex89b,ex89c,ex89d,ex89f,hz91,unset,klV,take,ex92,ex93,ey94a,ey94b,ey94c,tv,ex95,ex96,e98,e100,bool_neq_4RefApart,ex101,w1]⟩
      · rintro ⟨v142,b143⟩ σ ⟨ts,w,hw,rfl,g8,g9,hl0,-⟩ h
        clear hL4
        try dsimp only at h
        obtain rfl := inj_ok h
        simp [g8,g9,hl0,hw]
      · rintro k n ⟨v123,b124,v125⟩ σ ⟨ts,w,hw,rfl,g0,g1,g2,g8,g9,g10,g11,hl0,-⟩ h ih ex
        clear hL4
        rw [f71_L4.eq_def] at h; dsimp only at h
        replace h := bindT h; obtain ⟨x126,ex126,h⟩ := h
        replace h := bindT h; obtain ⟨x127,ex127,h⟩ := h
        cases x127
        case false =>
         simp [g0,g1,g2,g8,g9,g10,g11,hl0,ex126,ex127]
         refine ex (v123,b124) _ ?_ h
         exact ⟨_,_,by simp [hw],rfl,by simp [g0,g1,g2,g8,g9,g10,g11,hl0,ex126,ex127]⟩
        replace h := bind_ok h; obtain ⟨y128,ey128,h⟩ := h
        obtain ⟨ey128a,ey128e,ey128b,ey128c,ey128g⟩ := gI_ok hl0 ey128
        replace h := bindT h; obtain ⟨x129,ex129,h⟩ := h
        replace h := bindT h; obtain ⟨x130,ex130,h⟩ := h
        cases x130
        case false =>
         replace h := bindT h; obtain ⟨x141,ex141,h⟩ := h
         simp [g0,g1,g2,g8,g9,g10,g11,hl0,ex126,ex127,ey128a,ey128b,ey128c,tv,ex129,ex130,ex141]
         refine ih (v123,b124,x141) _ ?_ h
         exact ⟨_,_,by simp [hw],rfl,by simp [g0,g1,g2,g8,g9,g10,g11,hl0,ex126,ex127,ey128a,ey128b,ey128c,tv,ex129,ex130,ex141]⟩
        replace h := bind_ok h; obtain ⟨b131,e132,h⟩ := h
        have e132 : ∀ hp,E Try.prog Y0 28 [.v (.string (bs p0)),.v (.string (bs y128))] hp = some (.v (.bool b131),hp,none) := fun hp => f28_is  e132
        replace h := bind_ok h; obtain ⟨b133,e134,h⟩ := h
        have e134 : ∀ hp,E Try.prog Y0 28 [.v (.string (bs p1)),.v (.string (bs y128))] hp = some (.v (.bool b133),hp,none) := fun hp => f28_is  e134
        replace h := bindT h; obtain ⟨x135,ex135,h⟩ := h
        cases x135
        case false =>
         replace h := bindT h; obtain ⟨x140,ex140,h⟩ := h
         simp [g0,g1,g2,g8,g9,g10,g11,hl0,ex126,ex127,ey128a,ey128b,ey128c,tv,ex129,ex130,e132,e134,bool_neq_4RefApart,ex135,ex140]
         refine ih (v123,b124,x140) _ ?_ h
         exact ⟨_,_,by simp [hw],rfl,by simp [g0,g1,g2,g8,g9,g10,g11,hl0,ex126,ex127,ey128a,ey128b,ey128c,tv,ex129,ex130,e132,e134,bool_neq_4RefApart,ex135,ex140]⟩
        cases b124
        case false =>
         replace h := bindT h; obtain ⟨x139,ex139,h⟩ := h
         simp [g0,g1,g2,g8,g9,g10,g11,hl0,ex126,ex127,ey128a,ey128b,ey128c,tv,ex129,ex130,e132,e134,bool_neq_4RefApart,ex135,ex139]
         refine ih (y128,true,x139) _ ?_ h
         exact ⟨_,_,by simp [hw],rfl,by simp [g0,g1,g2,g8,g9,g10,g11,hl0,ex126,ex127,ey128a,ey128b,ey128c,tv,ex129,ex130,e132,e134,bool_neq_4RefApart,ex135,ex139]⟩
        replace h := bind_ok h; obtain ⟨x136,ex136,h⟩ := h
        have ex136 := inj_ok ex136
        cases x136
        case true =>
         replace h := bindT h; obtain ⟨x137,ex137,h⟩ := h
         simp [g0,g1,g2,g8,g9,g10,g11,hl0,ex126,ex127,ey128a,ey128b,ey128c,tv,ex129,ex130,e132,e134,bool_neq_4RefApart,ex135,ex136,abin_slss,ex137]
         refine ih (y128,true,x137) _ ?_ h
         exact ⟨_,_,by simp [hw],rfl,by simp [g0,g1,g2,g8,g9,g10,g11,hl0,ex126,ex127,ey128a,ey128b,ey128c,tv,ex129,ex130,e132,e134,bool_neq_4RefApart,ex135,ex136,abin_slss,ex137]⟩
        replace h := bindT h; obtain ⟨x138,ex138,h⟩ := h
        simp [g0,g1,g2,g8,g9,g10,g11,hl0,ex126,ex127,ey128a,ey128b,ey128c,tv,ex129,ex130,e132,e134,bool_neq_4RefApart,ex135,ex136,abin_slss,ex138]
        refine ih (v123,true,x138) _ ?_ h
        exact ⟨_,_,by simp [hw],rfl,by simp [g0,g1,g2,g8,g9,g10,g11,hl0,ex126,ex127,ey128a,ey128b,ey128c,tv,ex129,ex130,e132,e134,bool_neq_4RefApart,ex135,ex136,abin_slss,ex138]⟩
def f41_L0 (F : Nat) (p0 : List UInt8) (p1 : List UInt8) (K : List UInt8 × Int → Option (List UInt8 × Int)) : Nat → List UInt8 × Int × Int → Option (List UInt8 × Int)
  | 0,_ => none
  | n + 1,(v5,v6,v7) => (f71S F p0 p1 v7).bind fun (s8,b9) =>
    (match b9 with
    | true => (some (s8,0))
    | false => ((some (IntKind.i64.wrap (v7 + 1))).bind fun x11 =>
    f41_L0 F p0 p1 K n (v5,v6,x11)))
def f41S (F : Nat) (p0 : List UInt8) (p1 : List UInt8) : Option (List UInt8 × Int) :=
  (f58S F p0 p1).bind fun x1 =>
  (some (decide (x1 = 0))).bind fun x3 =>
  (match x3 with
  | true => ((some (decide (p0 = p1))).bind fun x4 =>
  (match x4 with
  | true => (some ([],13))
  | false => (f41_L0 F p0 p1 (fun (v12,v13) =>
    some (v12,v13)) F ([],0,1))))
  | false => (some ([],x1)))
theorem f41_is {p0 : List UInt8} {p1 : List UInt8} {hp : List (Option (List PV))} {F : Nat} {r : (List UInt8 × Int)}  (h : f41S F p0 p1 = some r) :
    E Try.prog Y0 41 [.v (.string (bs p0)),.v (.string (bs p1))] hp = some (.t [.v (.string (bs r.1)),iv r.2],hp,none) := by
  rw [E_bodyN 2 body41 rfl (by decide) rfl]
  simp only [Try.f41,Option.get_some]
  unfold f41S at h
  obtain ⟨x1,e2,h⟩ := bind_ok h
  have e2 : ∀ hp,E Try.prog Y0 58 [.v (.string (bs p0)),.v (.string (bs p1))] hp = some (iv x1,hp,none) := fun hp => f58_is  e2
  obtain ⟨x3,ex3,h⟩ := bindT h
  cases x3
  case false =>
   obtain rfl := inj_ok h
   simp [e2,ex3]
  obtain ⟨x4,ex4,h⟩ := bind_ok h
  have ex4p := inj_ok ex4
  have ex4 : decide (bs p0 = bs p1) = x4 := (decide_eq_decide.2 bs_eq).trans (inj_ok ex4)
  cases x4
  case true =>
   obtain rfl := inj_ok h
   simp [e2,ex3,ex4,ex4p,abin_seql,abin_sneq]
  simp [e2,ex3,ex4,ex4p,abin_seql,abin_sneq]
  have hL0 := h; clear h
  refine loopS (S := f41_L0 F p0 p1) (fun (v5,v6,v7) σ => ∃ (ts : Tr PV) (w : Option Nat),wok hp.length w ∧ σ = ⟨[],ts,hp,w⟩ ∧ ts.get 0 = some (.v (.string (bs p0))) ∧ ts.get 1 = some (.v (.string (bs p1))) ∧ ts.get 4 = some (.v (.string (bs v5))) ∧ ts.get 5 = some (iv v6) ∧ ts.get 7 = some (iv v7) ∧ True) (fun (v12,v13) σ => ∃ (ts : Tr PV) (w : Option Nat),wok hp.length w ∧ σ = ⟨[],ts,hp,w⟩ ∧ ts.get 4 = some (.v (.string (bs v12))) ∧ ts.get 5 = some (iv v13) ∧ True) (fun _ => rfl) hL0 ?_ ?_ ?_
  · exact ⟨_,_,by simp,rfl,by simp [e2,ex3,ex4,ex4p,abin_seql,abin_sneq]⟩
  · rintro ⟨v12,v13⟩ σ ⟨ts,w,hw,rfl,g4,g5,-⟩ h
    clear hL0
    try dsimp only at h
    obtain rfl := inj_ok h
    simp [g4,g5,hw]
  · rintro k n ⟨v5,v6,v7⟩ σ ⟨ts,w,hw,rfl,g0,g1,g4,g5,g7,-⟩ h ih ex
    clear hL0
    rw [f41_L0] at h
    obtain ⟨⟨s8,b9⟩,e10,h⟩ := bind_ok h
    try dsimp only at h
    have e10 : ∀ hp,E Try.prog Y0 71 [.v (.string (bs p0)),.v (.string (bs p1)),iv v7] hp = some (.t [.v (.string (bs s8)),.v (.bool b9)],hp,none) := fun hp => f71_is  e10
    cases b9
    case true =>
     obtain rfl := inj_ok h
     simp [g0,g1,g4,g5,g7,e10,hw]
    obtain ⟨x11,ex11,h⟩ := bindT h
    simp [g0,g1,g4,g5,g7,e10,ex11]
    refine ih (v5,v6,x11) _ ?_ h
    exact ⟨_,_,by simp [hw],rfl,by simp [g0,g1,g4,g5,g7,e10,ex11]⟩
def f43_L0 (F : Nat) (p0 : List UInt8) (p1 : List UInt8) (p2 : Int) (K : Unit → Option (Bool × Int)) : Nat → Int → Option (Bool × Int)
  | 0,_ => none
  | n + 1,v6 => (some (decide (v6 ≤ p2))).bind fun x7 =>
    (match x7 with
    | true => ((f71S F p0 p1 v6).bind fun (s8,b9) =>
    (match b9 with
    | true => (some (false,0))
    | false => ((some (IntKind.i64.wrap (v6 + 1))).bind fun x11 =>
    f43_L0 F p0 p1 p2 K n x11)))
    | false => (K ()))
def f43S (F : Nat) (p0 : List UInt8) (p1 : List UInt8) (p2 : Int) : Option (Bool × Int) :=
  (f58S F p0 p1).bind fun x1 =>
  (some (decide (x1 = 0))).bind fun x3 =>
  (match x3 with
  | true => ((f62S F p2 0 10).bind fun b4 =>
  (match b4 with
  | true => (f43_L0 F p0 p1 p2 (fun _ =>
    some (true,0)) F 1)
  | false => (some (false,1))))
  | false => (some (false,x1)))
theorem f43_is {p0 : List UInt8} {p1 : List UInt8} {p2 : Int} {hp : List (Option (List PV))} {F : Nat} {r : (Bool × Int)}  (h : f43S F p0 p1 p2 = some r) :
    E Try.prog Y0 43 [.v (.string (bs p0)),.v (.string (bs p1)),iv p2] hp = some (.t [.v (.bool r.1),iv r.2],hp,none) := by
  rw [E_bodyN 3 body43 rfl (by decide) rfl]
  simp only [Try.f43,Option.get_some]
  unfold f43S at h
  obtain ⟨x1,e2,h⟩ := bind_ok h
  have e2 : ∀ hp,E Try.prog Y0 58 [.v (.string (bs p0)),.v (.string (bs p1))] hp = some (iv x1,hp,none) := fun hp => f58_is  e2
  obtain ⟨x3,ex3,h⟩ := bindT h
  cases x3
  case false =>
   obtain rfl := inj_ok h
   simp [e2,ex3]
  obtain ⟨b4,e5,h⟩ := bind_ok h
  have e5 : ∀ hp,E Try.prog Y0 62 [iv p2,iv 0,iv 10] hp = some (.v (.bool b4),hp,none) := fun hp => f62_is  e5
  cases b4
  case false =>
   obtain rfl := inj_ok h
   simp [e2,ex3,e5]
  simp [e2,ex3,e5]
  have hL0 := h; clear h
  refine loopS (S := f43_L0 F p0 p1 p2) (fun v6 σ => ∃ (ts : Tr PV) (w : Option Nat),wok hp.length w ∧ σ = ⟨[],ts,hp,w⟩ ∧ ts.get 0 = some (.v (.string (bs p0))) ∧ ts.get 1 = some (.v (.string (bs p1))) ∧ ts.get 2 = some (iv p2) ∧ ts.get 9 = some (iv v6) ∧ True) (fun _ σ => ∃ (ts : Tr PV) (w : Option Nat),wok hp.length w ∧ σ = ⟨[],ts,hp,w⟩ ∧ True) (fun _ => rfl) hL0 ?_ ?_ ?_
  · exact ⟨_,_,by simp,rfl,by simp [e2,ex3,e5]⟩
  · rintro ⟨⟩ σ ⟨ts,w,hw,rfl,-⟩ h
    clear hL0
    try dsimp only at h
    obtain rfl := inj_ok h
    simp [hw]
  · rintro k n v6 σ ⟨ts,w,hw,rfl,g0,g1,g2,g9,-⟩ h ih ex
    clear hL0
    rw [f43_L0] at h
    obtain ⟨x7,ex7,h⟩ := bindT h
    cases x7
    case false =>
     simp [g0,g1,g2,g9,ex7]
     refine ex () _ ?_ h
     exact ⟨_,_,by simp [hw],rfl,by simp [g0,g1,g2,g9,ex7]⟩
    obtain ⟨⟨s8,b9⟩,e10,h⟩ := bind_ok h
    try dsimp only at h
    have e10 : ∀ hp,E Try.prog Y0 71 [.v (.string (bs p0)),.v (.string (bs p1)),iv v6] hp = some (.t [.v (.string (bs s8)),.v (.bool b9)],hp,none) := fun hp => f71_is  e10
    cases b9
    case true =>
     obtain rfl := inj_ok h
     simp [g0,g1,g2,g9,ex7,e10,hw]
    obtain ⟨x11,ex11,h⟩ := bindT h
    simp [g0,g1,g2,g9,ex7,e10,ex11]
    refine ih x11 _ ?_ h
    exact ⟨_,_,by simp [hw],rfl,by simp [g0,g1,g2,g9,ex7,e10,ex11]⟩
theorem bool_eql_4Apart6 {x y : Operand} {a b : Bool} : abin Try.prog .eql 4 x y (.bool a) (.bool b) = some (.bool (a == b)) := by cases a <;> cases b <;> kernel_rfl
def f6_L0 (F : Nat) (p3 : List (List UInt8)) (K : Unit → Option (Bool)) : Nat → Int → Option (Bool)
  | 0,_ => none
  | n + 1,v10 => (some ((p3.length : Int))).bind fun x11 =>
    (some (decide (v10 < x11))).bind fun x12 =>
    (match x12 with
    | true => ((gI p3 v10).bind fun y13 =>
    (f16S F y13).bind fun b14 =>
    (match b14 with
    | true => (some true)
    | false => ((some (IntKind.i64.wrap (v10 + 1))).bind fun x17 =>
    f6_L0 F p3 K n x17)))
    | false => (K ()))
def f6S (F : Nat) (p0 : List UInt8) (p1 : List UInt8) (p2 : Int) (p3 : List (List UInt8)) (p4 : Int) : Option (Bool) :=
  (f16S F p0).bind fun b1 =>
  (match b1 with
  | true => (some true)
  | false => ((f16S F p1).bind fun b4 =>
  (match b4 with
  | true => (some true)
  | false => ((some ((p3.length : Int))).bind fun x7 =>
  (some (decide (60 < x7))).bind fun x8 =>
  (match x8 with
  | true => (some true)
  | false => (f6_L0 F p3 (fun _ =>
    (f40S F p0 p1).bind fun (s18,x19) =>
    (f41S F p0 p1).bind fun (s21,x22) =>
    (f42S F p0 p1 p2).bind fun (b24,x25) =>
    (f43S F p0 p1 p2).bind fun (b27,x28) =>
    (f44O p3 p4).bind fun (s30,x31) =>
    (f45S F p3 p4).bind fun (s33,x34) =>
    (some (decide (s18 = s21))).bind fun x36 =>
    (match x36 with
    | true => ((some (decide (x19 = x22))).bind fun x37 =>
    (match x37 with
    | true => ((some ((b24 == b27))).bind fun x38 =>
    (match x38 with
    | true => ((some (decide (x25 = x28))).bind fun x39 =>
    (match x39 with
    | true => ((some (decide (s30 = s33))).bind fun x40 =>
    (match x40 with
    | true => ((some (decide (x31 = x34))).bind fun x41 =>
    (match x41 with
    | true => (some true)
    | false => (some false)))
    | false => (some false)))
    | false => (some false)))
    | false => (some false)))
    | false => (some false)))
    | false => (some false))) F 0))))))
theorem f6_is {p0 : List UInt8} {p1 : List UInt8} {p2 : Int} {a3 : Bool} {c3 : Ck} {p3 : List (List UInt8)} {p4 : Int} {hp : List (Option (List PV))} {F : Nat} {r : (Bool)}  (h : f6S F p0 p1 p2 p3 p4 = some r) :
    E Try.prog Y0 6 [.v (.string (bs p0)),.v (.string (bs p1)),iv p2,.l (ak a3) c3 p3.length (p3.map tv),iv p4] hp = some (.v (.bool r),hp,none) := by
  rw [E_bodyN 5 body6 rfl (by decide) rfl]
  simp only [Try.f6,Option.get_some]
  unfold f6S at h
  obtain ⟨b1,e2,h⟩ := bind_ok h
  have e2 : ∀ hp,E Try.prog Y0 16 [.v (.string (bs p0))] hp = some (.v (.bool b1),hp,none) := fun hp => f16_is  e2
  cases b1
  case true =>
   have q3 : ∀ hp,E Try.prog Y0 17 [] hp = some (.v (.bool true),hp,none) := fun hp => works_is
   obtain rfl := inj_ok h
   simp [e2,q3]
  obtain ⟨b4,e5,h⟩ := bind_ok h
  have e5 : ∀ hp,E Try.prog Y0 16 [.v (.string (bs p1))] hp = some (.v (.bool b4),hp,none) := fun hp => f16_is  e5
  cases b4
  case true =>
   have q6 : ∀ hp,E Try.prog Y0 17 [] hp = some (.v (.bool true),hp,none) := fun hp => works_is
   obtain rfl := inj_ok h
   simp [e2,e5,q6]
  obtain ⟨x7,ex7,h⟩ := bindT h
  obtain ⟨x8,ex8,h⟩ := bindT h
  cases x8
  case true =>
   have q9 : ∀ hp,E Try.prog Y0 17 [] hp = some (.v (.bool true),hp,none) := fun hp => works_is
   obtain rfl := inj_ok h
   simp [e2,e5,ex7,ex8,q9]
  simp [e2,e5,ex7,ex8]
  have hL0 := h; clear h
  refine loopS (S := f6_L0 F p3) (fun v10 σ => ∃ (ts : Tr PV) (w : Option Nat),wok hp.length w ∧ σ = ⟨[],ts,hp,w⟩ ∧ ts.get 0 = some (.v (.string (bs p0))) ∧ ts.get 1 = some (.v (.string (bs p1))) ∧ ts.get 2 = some (iv p2) ∧ ts.get 3 = some (.l (ak a3) c3 p3.length (p3.map tv)) ∧ ts.get 4 = some (iv p4) ∧ ts.get 11 = some (iv v10) ∧ True) (fun _ σ => ∃ (ts : Tr PV) (w : Option Nat),wok hp.length w ∧ σ = ⟨[],ts,hp,w⟩ ∧ ts.get 0 = some (.v (.string (bs p0))) ∧ ts.get 1 = some (.v (.string (bs p1))) ∧ ts.get 2 = some (iv p2) ∧ ts.get 3 = some (.l (ak a3) c3 p3.length (p3.map tv)) ∧ ts.get 4 = some (iv p4) ∧ True) (fun _ => rfl) hL0 ?_ ?_ ?_
  · exact ⟨_,_,by simp,rfl,by simp [e2,e5,ex7,ex8]⟩
  · rintro ⟨⟩ σ ⟨ts,w,hw,rfl,g0,g1,g2,g3,g4,-⟩ h
    clear hL0
    try dsimp only at h
    obtain ⟨⟨s18,x19⟩,e20,h⟩ := bind_ok h
    try dsimp only at h
    have e20 : ∀ hp,E Try.prog Y0 40 [.v (.string (bs p0)),.v (.string (bs p1))] hp = some (.t [.v (.string (bs s18)),iv x19],hp,none) := fun hp => f40_is  e20
    obtain ⟨⟨s21,x22⟩,e23,h⟩ := bind_ok h
    try dsimp only at h
    have e23 : ∀ hp,E Try.prog Y0 41 [.v (.string (bs p0)),.v (.string (bs p1))] hp = some (.t [.v (.string (bs s21)),iv x22],hp,none) := fun hp => f41_is  e23
    obtain ⟨⟨b24,x25⟩,e26,h⟩ := bind_ok h
    try dsimp only at h
    have e26 : ∀ hp,E Try.prog Y0 42 [.v (.string (bs p0)),.v (.string (bs p1)),iv p2] hp = some (.t [.v (.bool b24),iv x25],hp,none) := fun hp => f42_is  e26
    obtain ⟨⟨b27,x28⟩,e29,h⟩ := bind_ok h
    try dsimp only at h
    have e29 : ∀ hp,E Try.prog Y0 43 [.v (.string (bs p0)),.v (.string (bs p1)),iv p2] hp = some (.t [.v (.bool b27),iv x28],hp,none) := fun hp => f43_is  e29
    obtain ⟨⟨s30,x31⟩,e32,h⟩ := bind_ok h
    try dsimp only at h
    have e32 : ∀ hp,E Try.prog Y0 44 [.l (ak a3) c3 p3.length (p3.map tv),iv p4] hp = some (.t [.v (.string (bs s30)),iv x31],hp,none) := fun hp => f44_is e32
    obtain ⟨⟨s33,x34⟩,e35,h⟩ := bind_ok h
    try dsimp only at h
    have e35 : ∀ hp,E Try.prog Y0 45 [.l (ak a3) c3 p3.length (p3.map tv),iv p4] hp = some (.t [.v (.string (bs s33)),iv x34],hp,none) := fun hp => f45_is (a0 := a3) (c0 := c3) e35
    obtain ⟨x36,ex36,h⟩ := bind_ok h
    have ex36p := inj_ok ex36
    have ex36 : decide (bs s18 = bs s21) = x36 := (decide_eq_decide.2 bs_eq).trans (inj_ok ex36)
    cases x36
    case false =>
     obtain rfl := inj_ok h
     simp [g0,g1,g2,g3,g4,e20,e23,e26,e29,e32,e35,ex36,ex36p,abin_seql,abin_sneq,hw]
    obtain ⟨x37,ex37,h⟩ := bindT h
    cases x37
    case false =>
     obtain rfl := inj_ok h
     simp [g0,g1,g2,g3,g4,e20,e23,e26,e29,e32,e35,ex36,ex36p,abin_seql,abin_sneq,ex37,hw]
    obtain ⟨x38,ex38,h⟩ := bindT h
    cases x38
    case false =>
     obtain rfl := inj_ok h
     simp [g0,g1,g2,g3,g4,e20,e23,e26,e29,e32,e35,ex36,ex36p,abin_seql,abin_sneq,ex37,bool_eql_4Apart6,ex38,hw]
    obtain ⟨x39,ex39,h⟩ := bindT h
    cases x39
    case false =>
     obtain rfl := inj_ok h
     simp [g0,g1,g2,g3,g4,e20,e23,e26,e29,e32,e35,ex36,ex36p,abin_seql,abin_sneq,ex37,bool_eql_4Apart6,ex38,ex39,hw]
    obtain ⟨x40,ex40,h⟩ := bind_ok h
    have ex40p := inj_ok ex40
    have ex40 : decide (bs s30 = bs s33) = x40 := (decide_eq_decide.2 bs_eq).trans (inj_ok ex40)
    cases x40
    case false =>
     obtain rfl := inj_ok h
     simp [g0,g1,g2,g3,g4,e20,e23,e26,e29,e32,e35,ex36,ex36p,abin_seql,abin_sneq,ex37,bool_eql_4Apart6,ex38,ex39,ex40,ex40p,hw]
    obtain ⟨x41,ex41,h⟩ := bindT h
    cases x41
    case false =>
     obtain rfl := inj_ok h
     simp [g0,g1,g2,g3,g4,e20,e23,e26,e29,e32,e35,ex36,ex36p,abin_seql,abin_sneq,ex37,bool_eql_4Apart6,ex38,ex39,ex40,ex40p,ex41,hw]
    have q42 : ∀ hp,E Try.prog Y0 17 [] hp = some (.v (.bool true),hp,none) := fun hp => works_is
    obtain rfl := inj_ok h
    simp [g0,g1,g2,g3,g4,e20,e23,e26,e29,e32,e35,ex36,ex36p,abin_seql,abin_sneq,ex37,bool_eql_4Apart6,ex38,ex39,ex40,ex40p,ex41,q42,hw]
  · rintro k n v10 σ ⟨ts,w,hw,rfl,g0,g1,g2,g3,g4,g11,-⟩ h ih ex
    clear hL0
    rw [f6_L0] at h
    obtain ⟨x11,ex11,h⟩ := bindT h
    obtain ⟨x12,ex12,h⟩ := bindT h
    cases x12
    case false =>
     simp [g0,g1,g2,g3,g4,g11,ex11,ex12]
     refine ex () _ ?_ h
     exact ⟨_,_,by simp [hw],rfl,by simp [g0,g1,g2,g3,g4,g11,ex11,ex12]⟩
    obtain ⟨y13,ey13,h⟩ := bind_ok h
    obtain ⟨ey13a,ey13e,ey13b,ey13c,ey13g⟩ := gI_ok rfl ey13
    obtain ⟨b14,e15,h⟩ := bind_ok h
    have e15 : ∀ hp,E Try.prog Y0 16 [.v (.string (bs y13))] hp = some (.v (.bool b14),hp,none) := fun hp => f16_is  e15
    cases b14
    case true =>
     have q16 : ∀ hp,E Try.prog Y0 17 [] hp = some (.v (.bool true),hp,none) := fun hp => works_is
     obtain rfl := inj_ok h
     simp [g0,g1,g2,g3,g4,g11,ex11,ex12,ey13a,ey13b,ey13c,tv,e15,q16,hw]
    obtain ⟨x17,ex17,h⟩ := bindT h
    simp [g0,g1,g2,g3,g4,g11,ex11,ex12,ey13a,ey13b,ey13c,tv,e15,ex17]
    refine ih x17 _ ?_ h
    exact ⟨_,_,by simp [hw],rfl,by simp [g0,g1,g2,g3,g4,g11,ex11,ex12,ey13a,ey13b,ey13c,tv,e15,ex17]⟩
end Go.Proofs.Ytmnmfmghmenkkaa

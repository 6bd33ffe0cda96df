/-
  A region that draws, with what is known of the world told by the operations that have come up: a cell's fact is asked only as long as its load is still to come.
  Conditions: none; lemmas.
-/
import Derived.Test.YtdhichidcomkmaaGreatDoorTell1
import Derived.OrdersHeld
set_option linter.unusedSimpArgs false
set_option linter.unusedVariables false
namespace Go.Proofs.YtdhichidcomkmaaGreatDoor
section
variable {P : Program} {ops : Array Oper} {Q : Exit → Act → World → Prop} {md : Region.Mode} {T : Array Bool → World → Prop} {S : World → Prop}
def wpAnyL (P : Program) (md : Region.Mode) (ops : Array Oper) (Q : Exit → Act → World → Prop) (T : Array Bool → World → Prop) : Nat → Array Bool → Act → World → Prop
 | 0, l, a, w => Region.ready md ops l = [] ∧ Q .normal a w
 | n + 1, l, a, w => (Region.ready md ops l = [] → Q .normal a w) ∧
  ∀ i ∈ Region.ready md ops l, wpOp P ops Q i (fun a' w' => T (l.setIfInBounds i true) w' ∧ wpAnyL P md ops Q T n (l.setIfInBounds i true) a' w') a w
theorem wpAny_of_L : ∀ (n : Nat) (l : Array Bool) (a : Act) (w : World), wpAnyL P md ops Q T n l a w → wpAny P md ops Q n l a w
 | 0, _, _, _, h => h
 | n + 1, _, _, _, h => ⟨h.1, fun i hi => wpOp_mono (fun a' w' h' => wpAny_of_L n _ a' w' h'.2) (h.2 i hi)⟩
def Closed (md : Region.Mode) (ops : Array Oper) (l : Array Bool) : Prop := ∀ (j : Nat) (o : Oper), ops[j]? = some o → l.getD j false = true → ∀ e ∈ o.after, Region.binds md e = true → l.getD e.on false = true
theorem listed_of {l : Array Bool} {j : Nat} (h : l.getD j true = true) (hj : j < l.size) : l.getD j false = true := by
 simp [hj] at h ⊢
 exact h
theorem Closed.set {l : Array Bool} {j : Nat} (h : Closed md ops l) (hj : j ∈ Region.ready md ops l) : Closed md ops (l.setIfInBounds j true) := fun k o ho hk e he hb => by
 obtain ⟨_, oj, hoj, hall⟩ := mem_ready.1 hj
 by_cases hkj : j = k
 ·subst hkj
  rw [hoj] at ho
  cases ho
  exact getD_set_true (hall e he hb)
 ·rw [getD_set_ne false hkj] at hk
  exact getD_set_true (h k o ho hk e he hb)
def waits (md : Region.Mode) (ops : Array Oper) (j i : Nat) : Bool := match ops[j]? with
 | some o => o.after.any fun e => Region.binds md e && e.on == i
 | none => false
theorem Closed.unlisted {l : Array Bool} {i j : Nat} (h : Closed md ops l) (hw : waits md ops j i = true) (hi : l.getD i true = false) : l.getD j false = false := by
 unfold waits at hw
 cases ho : ops[j]? with
 | none => simp [ho] at hw
 | some o =>
  simp only [ho, Array.any_eq_true'] at hw
  obtain ⟨e, he, hb⟩ := hw
  simp only [Bool.and_eq_true, beq_iff_eq] at hb
  cases hl : l.getD j false with
  | false => rfl
  | true =>
   have h1 := h j o ho hl e he hb.1
   rw [hb.2] at h1
   rcases Nat.lt_or_ge i l.size with h' | h'
   ·simp [h'] at h1 hi
    rw [hi] at h1
    cases h1
   ·simp [Array.getElem?_eq_none h'] at h1
theorem wpAnyL_first {i : Nat} {oi : Oper} {v : Value} (hi : ops[i]? = some oi) (hsel : ∀ (j : Nat) (o : Oper) cs b, ops[j]? = some o → o.op ≠ .select cs b)
  (hQ : ∀ c a w, Q (.panic c) (a.put oi.dst v) w → Q (.panic c) a w) (hT : ∀ l w, Closed md ops l → l.getD i true = false → T l w → S w) (hTi : ∀ l w, T (l.setIfInBounds i true) w ↔ T l w) :
  ∀ (n : Nat) (l : Array Bool) (a : Act) (w : World),
   (∀ j oj, ops[j]? = some oj → j ≠ i → l.getD j true = false → (∀ e ∈ oj.after, Region.binds md e = true → e.on ≠ i) → oi.apart ops oj = true) →
   i ∈ Region.ready md ops l → YieldsIf P ops S oi v a → T l w → Closed md ops l →
   wpAnyL P md ops Q T n (l.setIfInBounds i true) (a.put oi.dst v) w → wpAnyL P md ops Q T (n + 1) l a w := by
 intro n
 induction n with
 | zero =>
  intro l a w _ hr hy hTl hcl H
  refine ⟨fun h => (by rw [h] at hr; cases hr), fun j hj => ?_⟩
  by_cases hji : j = i
  ·subst hji
   exact hy.wpOp hi (hT l w hcl (mem_ready.1 hr).1 hTl) ⟨(hTi l w).2 hTl, H⟩
  ·have h1 := ready_mono hj hji
   rw [H.1] at h1
   cases h1
 | succ n ih =>
  intro l a w hf hr hy hTl hcl H
  refine ⟨fun h => (by rw [h] at hr; cases hr), fun j hj => ?_⟩
  by_cases hji : j = i
  ·subst hji
   exact hy.wpOp hi (hT l w hcl (mem_ready.1 hr).1 hTl) ⟨(hTi l w).2 hTl, H⟩
  ·have hij : i ≠ j := fun h => hji h.symm
   have hready : i ∈ Region.ready md ops (l.setIfInBounds j true) := ready_mono hr hij
   have hun : (l.setIfInBounds j true).getD i true = false := (mem_ready.1 hready).1
   obtain ⟨hju, oj, hoj, hall⟩ := mem_ready.1 hj
   have hnot : ∀ e ∈ oj.after, Region.binds md e = true → e.on ≠ i := fun e he hb heq => by
    have h1 := hall e he hb
    have h0 := (mem_ready.1 hr).1
    rw [heq] at h1
    rcases Nat.lt_or_ge i l.size with h' | h'
    ·simp [h'] at h0 h1
     rw [h0] at h1
     cases h1
    ·simp [Array.getElem?_eq_none h'] at h1
   have h2 := wpOp_putIf hoj (hf j oj hoj hji hju hnot) (fun cs b => hsel i oi cs b hi) (fun cs b => hsel j oj cs b hoj) hQ hy (H.2 j (ready_mono hj hji))
   refine wpOp_mono (fun a' w' h3 => ?_) h2
   obtain ⟨g1, g2, g3⟩ := h3
   have hcc : (l.setIfInBounds i true).setIfInBounds j true = (l.setIfInBounds j true).setIfInBounds i true := Array.setIfInBounds_comm _ _ hij
   rw [hcc] at g2 g3
   have g4 := (hTi _ _).1 g2
   refine ⟨g4, ih (l.setIfInBounds j true) a' w' ?_ hready g1 g4 (hcl.set hj) g3⟩
   intro k ok hk hki hku hno
   refine hf k ok hk hki ?_ hno
   by_cases hjk : j = k
   ·subst hjk
    exact hju
   ·rw [getD_set_ne true hjk] at hku
    exact hku
theorem wpAnyL_take {i : Nat} {oi : Oper} {v : Value} {n : Nat} {l : Array Bool} {a : Act} {w : World} (hi : ops[i]? = some oi)
  (hs : Region.noSelect ops = true) (hf : Region.free md ops l i = true) (hr : (Region.ready md ops l).contains i = true)
  (hQ : ∀ c a w, Q (.panic c) (a.put oi.dst v) w → Q (.panic c) a w)
  (hT : ∀ l w, Closed md ops l → l.getD i true = false → T l w → S w) (hTi : ∀ l w, T (l.setIfInBounds i true) w ↔ T l w)
  (hy : YieldsIf P ops S oi v a) (hTl : T l w) (hcl : Closed md ops l)
  (h : T (l.setIfInBounds i true) w → Closed md ops (l.setIfInBounds i true) → wpAnyL P md ops Q T n (l.setIfInBounds i true) (a.put oi.dst v) w) : wpAnyL P md ops Q T (n + 1) l a w := by
 have hr' : i ∈ Region.ready md ops l := by simpa using hr
 exact wpAnyL_first hi (Region.noSelect_spec hs) hQ hT hTi n l a w (Region.free_spec hi hf) hr' hy hTl hcl (h ((hTi l w).2 hTl) (hcl.set hr'))
theorem wpAnyL_op {i : Nat} {o : Oper} {n : Nat} {l : Array Bool} {a : Act} {w : World} (hr : Region.ready md ops l = [i]) (ho : ops[i]? = some o) (hcl : Closed md ops l)
  (h : ∀ K' : Act → World → Prop, Shut (∀ a w, T (l.setIfInBounds i true) w → (T (l.setIfInBounds i true) w → Closed md ops (l.setIfInBounds i true) → wpAnyL P md ops Q T n (l.setIfInBounds i true) a w) → K' a w) → if Region.wanted o (yielded ops a.tmps) = true then Oper.wp P o a w K' Q else K' (a.put o.dst undef) w) :
  wpAnyL P md ops Q T (n + 1) l a w := by
 have hi : i ∈ Region.ready md ops l := by rw [hr]; exact List.mem_singleton_self _
 refine ⟨fun h0 => (by rw [hr] at h0; cases h0), fun j hj => ?_⟩
 rw [hr] at hj
 obtain rfl := List.mem_singleton.1 hj
 exact wpOp_step ho fun K' hK => h K' fun a w hS hW => hK a w ⟨hS, hW hS (hcl.set hi)⟩
theorem wpAnyL_op2 {i j : Nat} {o o' : Oper} {n : Nat} {l : Array Bool} {a : Act} {w : World} (hr : Region.ready md ops l = [i, j]) (ho : ops[i]? = some o) (ho' : ops[j]? = some o') (hcl : Closed md ops l)
  (h : ∀ K' : Act → World → Prop, Shut (∀ a w, T (l.setIfInBounds i true) w → (T (l.setIfInBounds i true) w → Closed md ops (l.setIfInBounds i true) → wpAnyL P md ops Q T n (l.setIfInBounds i true) a w) → K' a w) → if Region.wanted o (yielded ops a.tmps) = true then Oper.wp P o a w K' Q else K' (a.put o.dst undef) w)
  (h' : ∀ K' : Act → World → Prop, Shut (∀ a w, T (l.setIfInBounds j true) w → (T (l.setIfInBounds j true) w → Closed md ops (l.setIfInBounds j true) → wpAnyL P md ops Q T n (l.setIfInBounds j true) a w) → K' a w) → if Region.wanted o' (yielded ops a.tmps) = true then Oper.wp P o' a w K' Q else K' (a.put o'.dst undef) w) :
  wpAnyL P md ops Q T (n + 1) l a w := by
 have hi : i ∈ Region.ready md ops l := by rw [hr]; simp
 have hj : j ∈ Region.ready md ops l := by rw [hr]; simp
 refine ⟨fun h0 => (by rw [hr] at h0; cases h0), fun k hk => ?_⟩
 rw [hr] at hk
 rcases List.mem_cons.1 hk with rfl | hk
 ·exact wpOp_step ho fun K' hK => h K' fun a w hS hW => hK a w ⟨hS, hW hS (hcl.set hi)⟩
 ·obtain rfl := List.mem_singleton.1 hk
  exact wpOp_step ho' fun K' hK => h' K' fun a w hS hW => hK a w ⟨hS, hW hS (hcl.set hj)⟩
theorem wpAnyL_done {l : Array Bool} {a : Act} {w : World} (hr : Region.ready md ops l = []) (h : Q .normal a w) : ∀ n, wpAnyL P md ops Q T n l a w
 | 0 => ⟨hr, h⟩
 | _ + 1 => ⟨fun _ => h, by rw [hr]; simp⟩
theorem closed_none {k : Nat} : Closed md ops (Array.replicate k false) := fun j o ho hl => by
 rcases Nat.lt_or_ge j k with h' | h'
 ·simp [h'] at hl
 ·simp [h'] at hl
theorem wp_region_L {id : Nat} {a : Act} {w : World} (hm : P.follows .mixedOrders = true) (hT : T (Array.replicate ops.size false) w.drew)
  (h : T (Array.replicate ops.size false) w.drew → Closed .any ops (Array.replicate ops.size false) → wpAnyL P .any ops Q T ops.size (Array.replicate ops.size false) a w.drew) : (Code.region id ops true).wp P Q a w :=
 wp_region_any hm (wpAny_of_L _ _ _ _ (h hT closed_none))
def Tw (F0 : World → Prop) (L : List (Nat × (World → Prop))) (l : Array Bool) (w : World) : Prop := F0 w ∧ ∀ p ∈ L, l.getD p.1 false = true ∨ p.2 w
theorem Tw_set {F0 : World → Prop} {L : List (Nat × (World → Prop))} {i : Nat} (h : (L.all fun p => p.1 != i) = true) (l : Array Bool) (w : World) : Tw F0 L (l.setIfInBounds i true) w ↔ Tw F0 L l w := by
 have h1 : ∀ p ∈ L, (l.setIfInBounds i true).getD p.1 false = l.getD p.1 false := fun p hp => by
  have h2 := List.all_eq_true.1 h p hp
  exact getD_set_ne false (fun e => by subst e; simp at h2)
 unfold Tw
 constructor
 ·rintro ⟨a, b⟩
  exact ⟨a, fun p hp => by rw [← h1 p hp]; exact b p hp⟩
 ·rintro ⟨a, b⟩
  exact ⟨a, fun p hp => by rw [h1 p hp]; exact b p hp⟩
theorem Tw_get {F0 : World → Prop} {L : List (Nat × (World → Prop))} {i k : Nat} {F : World → Prop} (hp : (k, F) ∈ L) (hw : waits md ops k i = true) : ∀ l w, Closed md ops l → l.getD i true = false → Tw F0 L l w → F w := fun l w hc hi hT => by
 rcases hT.2 _ hp with h | h
 ·have h1 := hc.unlisted hw hi
  rw [h1] at h
  cases h
 ·exact h
theorem Tw_store {F0 : World → Prop} {L : List (Nat × (World → Prop))} {k : Nat} {l : Array Bool} {w w' : World} (h : Tw F0 L l w) (h0 : F0 w') (hk : k < l.size) (hL : ∀ p ∈ L, p.1 = k ∨ (p.2 w → p.2 w')) : Tw F0 L (l.setIfInBounds k true) w' :=
 ⟨h0, fun p hp => by
  rcases hL p hp with e | e
  ·left
   rw [e]
   simp [hk]
  ·rcases h.2 p hp with g | g
   ·exact .inl (getD_set_true g)
   ·exact .inr (e g)⟩
end
end Go.Proofs.YtdhichidcomkmaaGreatDoor

/-
  Other numbers of pages: the fewest settings, how many plans have them, bounds, and the times that prove, stay.
  Conditions: none; definitions and lemmas.
-/
import Derived.Test.YtcdhajbhpnbdkaaDoorBoundsMax
set_option linter.unusedSimpArgs false
set_option linter.unusedVariables false
namespace Go.Proofs.YtcdhajbhpnbdkaaDoor
open Go.Abs Go.Pur
set_option maxRecDepth 100000
structure Ren (σ τ : Nat → Nat) : Prop where
 lt : ∀ p, p < 6 → σ p < 6
 lt' : ∀ p, p < 6 → τ p < 6
 li : ∀ p, p < 6 → τ (σ p) = p
 ri : ∀ p, p < 6 → σ (τ p) = p
section
variable {σ τ : Nat → Nat}
theorem Ren.inj (h : Ren σ τ) {p q : Nat} (hp : p < 6) (hq : q < 6) : σ p = σ q ↔ p = q :=
 ⟨fun e => by have := congrArg τ e; rwa [h.li p hp, h.li q hq] at this, fun e => by rw [e]⟩
structure RenS (σ : Nat → Nat) (s s' : Nat) : Prop where
 l : s < 64
 r : s' < 64
 b : ∀ q, q < 6 → s'.testBit (σ q) = s.testBit q
theorem RenS.zero : RenS σ 0 0 := ⟨by decide, by decide, fun q _ => by simp⟩
theorem RenS.set {s s' p : Nat} (h : Ren σ τ) (hs : RenS σ s s') (hp : p < 6) : RenS σ (setB s p) (setB s' (σ p)) :=
 ⟨set_lt hs.l hp, set_lt hs.r (h.lt p hp), fun q hq => by rw [set_bit hs.r (h.lt p hp) (h.lt q hq), set_bit hs.l hp hq, hs.b q hq, decide_eq_decide.2 (h.inj hq hp)]⟩
theorem RenS.clr {s s' p : Nat} (h : Ren σ τ) (hs : RenS σ s s') (hp : p < 6) : RenS σ (clrB s p) (clrB s' (σ p)) :=
 ⟨clr_lt hs.l hp, clr_lt hs.r (h.lt p hp), fun q hq => by rw [clr_bit hs.r (h.lt p hp) (h.lt q hq), clr_bit hs.l hp hq, hs.b q hq, decide_eq_decide.2 (h.inj hq hp)]⟩
theorem bitsN_nodup {s : Nat} : (bitsN s).Nodup := List.Pairwise.filter _ List.nodup_range
theorem nodup_map {f : Nat → Nat} : ∀ {l : List Nat}, l.Nodup → (∀ a ∈ l, ∀ b ∈ l, f a = f b → a = b) → (l.map f).Nodup
 | [], _, _ => by simp
 | a :: l, h, hi => by
  rw [List.nodup_cons] at h
  rw [List.map_cons, List.nodup_cons]
  refine ⟨fun hm => ?_, nodup_map h.2 fun x hx y hy => hi x (by simp [hx]) y (by simp [hy])⟩
  obtain ⟨b, hb, e⟩ := List.mem_map.1 hm
  have := hi b (by simp [hb]) a (by simp) e
  subst this
  exact h.1 hb
theorem RenS.perm {s s' : Nat} (h : Ren σ τ) (hs : RenS σ s s') : (bitsN s').Perm ((bitsN s).map σ) := by
 refine (List.perm_ext_iff_of_nodup bitsN_nodup (nodup_map bitsN_nodup fun a ha b hb e => (h.inj ((bitsN_mem hs.l).1 ha).1 ((bitsN_mem hs.l).1 hb).1).1 e)).2 fun x => ?_
 rw [bitsN_mem hs.r, List.mem_map]
 constructor
 ·rintro ⟨h1, h2⟩
  refine ⟨τ x, (bitsN_mem hs.l).2 ⟨h.lt' x h1, ?_⟩, h.ri x h1⟩
  rw [← hs.b _ (h.lt' x h1), h.ri x h1]; exact h2
 ·rintro ⟨a, ha, rfl⟩
  obtain ⟨h1, h2⟩ := (bitsN_mem hs.l).1 ha
  exact ⟨h.lt a h1, by rw [hs.b a h1]; exact h2⟩
theorem RenS.cnt {s s' : Nat} (h : Ren σ τ) (hs : RenS σ s s') : cnt s' = cnt s := by
 have := (hs.perm h).length_eq
 rw [List.length_map, bitsN_len, bitsN_len] at this
 exact this
theorem minL_perm {l m : List Nat} (h : l.Perm m) : minL l = minL m := by
 cases l with
 | nil => rw [List.nil_perm.1 h]
 | cons a l =>
  have hm : m ≠ [] := fun e => by rw [e] at h; have := h.length_eq; simp at this
  have h1 := minL_le (h.mem_iff.2 (minL_mem hm))
  have h2 := minL_le (h.mem_iff.1 (minL_mem (l := a :: l) (by simp)))
  omega
theorem need_ren {room : Int} (h : Ren σ τ) : ∀ (l : List Nat) {s s' : Nat}, (∀ p ∈ l, p < 6) → RenS σ s s' → need room (l.map σ) s' = need room l s
 | [], _, _, _, _ => rfl
 | p :: r, s, s', hl, hs => by
  have hp := hl p (by simp)
  have hr : ∀ q ∈ r, q < 6 := fun q hq => hl q (by simp [hq])
  simp only [List.map_cons, need]
  rw [hs.b p hp, hs.cnt h, need_ren h r hr hs, need_ren h r hr (hs.set h hp), minL_perm ((hs.perm h).map _), List.map_map]
  congr 2
  congr 2
  refine List.map_congr_left fun g hg => ?_
  obtain ⟨h1, h2⟩ := (bitsN_mem hs.l).1 hg
  exact need_ren h r hr ((hs.clr h h1).set h hp)
theorem ways_ren {room : Int} (h1 : 1 ≤ room) (h : Ren σ τ) : ∀ (l : List Nat) {s s' : Nat}, (∀ p ∈ l, p < 6) → RenS σ s s' → ways room (l.map σ) s' = ways room l s
 | [], _, _, _, _ => rfl
 | p :: r, s, s', hl, hs => by
  have hp := hl p (by simp)
  have hr : ∀ q ∈ r, q < 6 := fun q hq => hl q (by simp [hq])
  by_cases hb : s.testBit p = true
  ·have hb' : s'.testBit (σ p) = true := by rw [hs.b p hp, hb]
   have := ways_ren h1 h r hr hs
   unfold ways at this ⊢
   simp only [List.map_cons, bst, if_pos hb, if_pos hb']
   exact this
  ·have hb' : s'.testBit (σ p) = false := by rw [hs.b p hp]; simpa using hb
   by_cases hc : (cnt s : Int) < room
   ·have hc' : (Go.Proofs.YtcdhajbhpnbdkaaDoor.cnt s' : Int) < room := by rw [hs.cnt h]; exact hc
    have := ways_ren h1 h r hr (hs.set h hp)
    unfold ways at this ⊢
    simp only [List.map_cons, bst, if_neg hb, hb', Bool.false_eq_true, if_false, if_pos hc, if_pos hc']
    exact this
   ·have hc' : ¬ (Go.Proofs.YtcdhajbhpnbdkaaDoor.cnt s' : Int) < room := by rw [hs.cnt h]; exact hc
    have hn := need_ren (room := room) h (p :: r) hl hs
    rw [List.map_cons] at hn ⊢
    rw [ways_full h1 hb' hc', ways_full h1 (by simpa using hb) hc, hn, ((hs.perm h).map _).sum_nat, List.map_map]
    congr 1
    refine List.map_congr_left fun g hg => ?_
    obtain ⟨g1, g2⟩ := (bitsN_mem hs.l).1 hg
    simp only [Function.comp]
    rw [need_ren h r hr ((hs.clr h g1).set h hp), ways_ren h1 h r hr ((hs.clr h g1).set h hp)]
def renI (σ : Nat → Nat) (p : Int) : Int := if 0 ≤ p then (σ p.toNat : Nat) else p
theorem renI_inj (h : Ren σ τ) {p q : Int} (hp : p < 6) (hq : q < 6) : renI σ p = renI σ q ↔ p = q := by
 unfold renI
 split
 ·rename_i h1
  split
  ·rename_i h2
   have := h.inj (p := p.toNat) (q := q.toNat) (by omega) (by omega)
   omega
  ·omega
 ·split
  ·omega
  ·exact Iff.rfl
theorem renI_nat (σ : Nat → Nat) (p : Nat) : renI σ (p : Int) = (σ p : Nat) := by unfold renI; rw [if_pos (by omega)]; rfl
section
variable {pages : List Int}
theorem ren_range (h : Ren σ τ) (hpg : ∀ q ∈ pages, 0 ≤ q ∧ q ≤ 5) : ∀ q ∈ pages.map (renI σ), 0 ≤ q ∧ q ≤ 5 := fun q hq => by
 obtain ⟨x, hx, rfl⟩ := List.mem_map.1 hq
 have := hpg x hx
 have := h.lt x.toNat (by omega)
 unfold renI
 rw [if_pos (by omega)]; omega
theorem nxt_ren (h : Ren σ τ) (hpg : ∀ q ∈ pages, 0 ≤ q ∧ q ≤ 5) {p : Int} (hp : p < 6) (t : Nat) : nxt (pages.map (renI σ)) (renI σ p) t = nxt pages p t := by
 unfold nxt
 rw [← List.map_drop, List.findIdx_map]
 congr 1
 have : ∀ (l : List Int), (∀ q ∈ l, q < 6) → l.findIdx ((fun y => decide (y = renI σ p)) ∘ renI σ) = l.findIdx fun y => decide (y = p) := fun l => by
  induction l with
  | nil => intro _; rfl
  | cons a l ih =>
   intro hl
   rw [List.findIdx_cons, List.findIdx_cons, ih fun q hq => hl q (by simp [hq])]
   have e : ((fun y => decide (y = renI σ p)) ∘ renI σ) a = decide (a = p) := by
    simp only [Function.comp]
    exact decide_eq_decide.2 (renI_inj h (hl a (by simp)) hp)
   rw [e]
 exact this _ fun q hq => by have := hpg q (List.mem_of_mem_drop hq); omega
theorem spG_ren (h : Ren σ τ) (hpg : ∀ q ∈ pages, 0 ≤ q ∧ q ≤ 5) : ∀ (k i : Nat), i + k = pages.length → spG (pages.map (renI σ)) k i = spG pages k i
 | 0, i, _ => rfl
 | k + 1, i, hk => by
  have hi : i < pages.length := by omega
  have hq := hpg _ (List.getElem_mem hi)
  simp only [spG]
  have e : (pages.map (renI σ)).getD i 0 = renI σ pages[i] := by
   rw [getD_at (by simpa using hi)]; simp
  rw [e, getD_at hi, nxt_ren h hpg (by omega), spG_ren h hpg k (i + 1) (by omega), List.length_map]
theorem bndT_ren {room : Int} (h : Ren σ τ) (hpg : ∀ q ∈ pages, 0 ≤ q ∧ q ≤ 5) (T : List Int) : bndT room (pages.map (renI σ)) T = bndT room pages T := by
 unfold bndT
 rw [List.length_map, spG_ren h hpg _ 0 (by omega)]
theorem rem6_ren : (∀ q ∈ pages, 0 ≤ q ∧ q ≤ 5) → rem6 (pages.map (renI σ)) 0 = (rem6 pages 0).map σ := fun hpg => by
 unfold rem6
 rw [List.drop_zero, List.drop_zero, List.map_map, List.map_map]
 refine List.map_congr_left fun q hq => ?_
 have := hpg q hq
 simp only [Function.comp, renI]
 rw [if_pos (by omega)]; rfl
theorem rem6_lt (hpg : ∀ q ∈ pages, 0 ≤ q ∧ q ≤ 5) : ∀ p ∈ rem6 pages 0, p < 6 := fun p hp => by
 unfold rem6 at hp
 rw [List.drop_zero] at hp
 obtain ⟨x, hx, rfl⟩ := List.mem_map.1 hp
 have := hpg x hx; omega
theorem need_renP {room : Int} (h : Ren σ τ) (hpg : ∀ q ∈ pages, 0 ≤ q ∧ q ≤ 5) : need room (rem6 (pages.map (renI σ)) 0) 0 = need room (rem6 pages 0) 0 := by
 rw [rem6_ren hpg, need_ren h _ (rem6_lt hpg) RenS.zero]
theorem ways_renP {room : Int} (h1 : 1 ≤ room) (h : Ren σ τ) (hpg : ∀ q ∈ pages, 0 ≤ q ∧ q ≤ 5) : ways room (rem6 (pages.map (renI σ)) 0) 0 = ways room (rem6 pages 0) 0 := by
 rw [rem6_ren hpg, ways_ren h1 h _ (rem6_lt hpg) RenS.zero]
theorem wo_ren (h : Ren σ τ) {x : Int} (hx : x < 6) : ∀ {l : List Int}, (∀ q ∈ l, q < 6) → wo (l.map (renI σ)) (renI σ x) = (wo l x).map (renI σ)
 | [], _ => rfl
 | a :: l, hl => by
  have ih := wo_ren h hx (l := l) fun q hq => hl q (by simp [hq])
  unfold wo at ih ⊢
  have e := renI_inj h (p := a) (q := x) (hl a (by simp)) hx
  by_cases c : a = x
  ·have c' := e.2 c
   rw [List.map_cons, List.filter_cons_of_neg (by simp [c']), List.filter_cons_of_neg (by simp [c]), ih]
  ·have c' : ¬ renI σ a = renI σ x := fun h => c (e.1 h)
   rw [List.map_cons, List.filter_cons_of_pos (by simp [c']), List.filter_cons_of_pos (by simp [c]), List.map_cons, ih]
theorem mem_ren (h : Ren σ τ) {x : Int} (hx : x < 6) {l : List Int} (hl : ∀ q ∈ l, q < 6) : renI σ x ∈ l.map (renI σ) ↔ x ∈ l := by
 rw [List.mem_map]
 constructor
 ·rintro ⟨a, ha, e⟩
  rwa [← (renI_inj h (hl a ha) hx).1 e]
 ·intro hm; exact ⟨x, hm, rfl⟩
end
end
end Go.Proofs.YtcdhajbhpnbdkaaDoor

/-
  The fewest settings: the search over all plans, and the bound by times, have the same value; the one that is needed last may be distributed.
  Bounds of times: the greatest one is the fewest settings; no plan has fewer.
  The fewest settings, how many plans have them, and the first of these plans: the search with a table, and the list of all plans.
  The fewest settings: with one page more; in the opposite order; with more room.
  Conditions: none; definitions and lemmas.
-/
import Derived.Test.YtcdhajbhpnbdkaaDoorRunsLaw
set_option linter.unusedSimpArgs false
set_option linter.unusedVariables false
namespace Go.Proofs.YtcdhajbhpnbdkaaDoor
open Go.Abs Go.Pur
set_option maxRecDepth 100000
theorem cnt6 {s : Nat} (h : s < 64) : cnt s = (s.testBit 0).toNat + (s.testBit 1).toNat + (s.testBit 2).toNat + (s.testBit 3).toNat + (s.testBit 4).toNat + (s.testBit 5).toNat := by
 have : (List.range 64).all (fun s => decide (cnt s = (s.testBit 0).toNat + (s.testBit 1).toNat + (s.testBit 2).toNat + (s.testBit 3).toNat + (s.testBit 4).toNat + (s.testBit 5).toNat)) = true := by kernel_rfl
 rw [List.all_eq_true] at this
 simpa using this s (List.mem_range.2 h)
theorem ext6 {s t : Nat} (hs : s < 64) (ht : t < 64) (h : ∀ q, q < 6 → s.testBit q = t.testBit q) : s = t := by
 refine Nat.eq_of_testBit_eq fun i => ?_
 rcases Nat.lt_or_ge i 6 with hi | hi
 ·exact h i hi
 ·have h2 : 2 ^ 6 ≤ 2 ^ i := Nat.pow_le_pow_right (by decide) hi
  rw [Nat.testBit_lt_two_pow (by omega), Nat.testBit_lt_two_pow (by omega)]
theorem set_lt {s p : Nat} (h : s < 64) (hp : p < 6) : setB s p < 64 := (bit_at h hp).2.2.2.2.1
theorem clr_lt {s p : Nat} (h : s < 64) (hp : p < 6) : clrB s p < 64 := (bit_at h hp).2.2.2.1
theorem set_bit {s p q : Nat} (h : s < 64) (hp : p < 6) (hq : q < 6) : (setB s p).testBit q = (s.testBit q || decide (q = p)) := ((bit_at h hp).2.2.2.2.2 q hq).2
theorem clr_bit {s p q : Nat} (h : s < 64) (hp : p < 6) (hq : q < 6) : (clrB s p).testBit q = (s.testBit q && !decide (q = p)) := ((bit_at h hp).2.2.2.2.2 q hq).1
def nb (b : Bool) : Nat := if b then 0 else 1
theorem cnt_set {s p : Nat} (h : s < 64) (hp : p < 6) : cnt (setB s p) = cnt s + nb (s.testBit p) := by
 rw [cnt6 (set_lt h hp), cnt6 h, set_bit h hp (by omega), set_bit h hp (by omega), set_bit h hp (by omega), set_bit h hp (by omega), set_bit h hp (by omega), set_bit h hp (by omega)]
 cases hb : s.testBit p <;> rcases six_cases hp with rfl | rfl | rfl | rfl | rfl | rfl <;> simp [hb, nb] <;> omega
theorem cnt_clr {s p : Nat} (h : s < 64) (hp : p < 6) (hb : s.testBit p = true) : cnt (clrB s p) + 1 = cnt s := by
 rw [cnt6 (clr_lt h hp), cnt6 h, clr_bit h hp (by omega), clr_bit h hp (by omega), clr_bit h hp (by omega), clr_bit h hp (by omega), clr_bit h hp (by omega), clr_bit h hp (by omega)]
 rcases six_cases hp with rfl | rfl | rfl | rfl | rfl | rfl <;> simp [hb] <;> omega
def sub (H S : Nat) : Prop := ∀ q, q < 6 → H.testBit q = true → S.testBit q = true
theorem toNat_le {a b : Bool} (h : a = true → b = true) : a.toNat ≤ b.toNat := by
 cases a <;> cases b <;> simp_all
theorem sub_cnt {H S : Nat} (hH : H < 64) (hS : S < 64) (h : sub H S) : cnt H ≤ cnt S ∧ ∀ p, p < 6 → S.testBit p = true → H.testBit p = false → cnt H + 1 ≤ cnt S := by
 have h0 := toNat_le (h 0 (by omega))
 have h1 := toNat_le (h 1 (by omega))
 have h2 := toNat_le (h 2 (by omega))
 have h3 := toNat_le (h 3 (by omega))
 have h4 := toNat_le (h 4 (by omega))
 have h5 := toNat_le (h 5 (by omega))
 rw [cnt6 hH, cnt6 hS]
 refine ⟨by omega, fun p hp a b => ?_⟩
 rcases six_cases hp with rfl | rfl | rfl | rfl | rfl | rfl <;> simp only [a, b, Bool.toNat_true, Bool.toNat_false] at * <;> omega
theorem sub_set {H S p : Nat} (hH : H < 64) (hS : S < 64) (hp : p < 6) (h : sub H S) : sub (setB H p) (setB S p) := fun q hq a => by
 rw [set_bit hH hp hq] at a
 rw [set_bit hS hp hq]
 simp only [Bool.or_eq_true, decide_eq_true_eq] at a ⊢
 exact a.imp (h q hq) id
def bnd (k : Int) : List Nat → Nat → Int
 | [], _ => 0
 | p :: r, H => nb (H.testBit p) + max (bnd k r (setB H p)) (bnd k r (setB 0 p) - (k - 1))
theorem bnd_sub {k : Int} : ∀ (r : List Nat), (∀ p ∈ r, p < 6) → ∀ {H S : Nat}, H < 64 → S < 64 → sub H S → bnd k r S ≤ bnd k r H ∧ bnd k r H + cnt H ≤ bnd k r S + cnt S
 | [], _, H, S, hH, hS, h => by
  have := (sub_cnt hH hS h).1
  simp only [bnd]; omega
 | p :: r, hr, H, S, hH, hS, h => by
  have hp := hr p (by simp)
  obtain ⟨i1, i2⟩ := bnd_sub (k := k) r (fun q hq => hr q (by simp [hq])) (set_lt hH hp) (set_lt hS hp) (sub_set hH hS hp h)
  obtain ⟨c1, c2⟩ := sub_cnt hH hS h
  rw [cnt_set hH hp, cnt_set hS hp] at i2
  have c3 := c2 p hp
  have c4 := h p hp
  simp only [bnd]
  cases a : H.testBit p <;> cases b : S.testBit p <;> simp [a, b, nb] at * <;> omega
theorem far_bnd {k : Int} : ∀ (r : List Nat), (∀ p ∈ r, p < 6) → ∀ {S A g : Nat}, S < 64 → A < 64 → sub A S → g < 6 → S.testBit g = true → A.testBit g = false → (∀ x, x < 6 → S.testBit x = true → A.testBit x = false → r.idxOf x ≤ r.idxOf g) →
  bnd k r (clrB S g) ≤ max (bnd k r S) (bnd k r A - ((cnt S : Int) - cnt A - 1))
 | [], _, S, A, g, hS, hA, h, hg, g1, g2, hf => by
  have := (sub_cnt hA hS h).2 g hg g1 g2
  simp only [bnd]; omega
 | q :: r, hr, S, A, g, hS, hA, h, hg, g1, g2, hf => by
  have hq := hr q (by simp)
  by_cases e : q = g
  ·subst e
   have hSA : clrB S q = A := by
    refine ext6 (clr_lt hS hq) hA fun x hx => ?_
    rw [clr_bit hS hq hx]
    by_cases ex : x = q
    ·subst ex; rw [g2]; simp
    ·simp only [ex, decide_false, Bool.not_false, Bool.and_true]
     cases ha : A.testBit x with
     | true => exact h x hx ha
     | false =>
      cases hs : S.testBit x with
      | false => rfl
      | true =>
       have := hf x hx hs ha
       have hb : (q == x) = false := by simpa using Ne.symm ex
       rw [List.idxOf_cons, List.idxOf_cons, hb] at this
       simp at this
   have := cnt_clr hS hq g1
   rw [hSA] at this ⊢
   omega
  ·have e2 : setB (clrB S g) q = clrB (setB S q) g := by
    refine ext6 (set_lt (clr_lt hS hg) hq) (clr_lt (set_lt hS hq) hg) fun x hx => ?_
    rw [set_bit (clr_lt hS hg) hq hx, clr_bit hS hg hx, clr_bit (set_lt hS hq) hg hx, set_bit hS hq hx]
    by_cases ex : x = q
    ·subst ex; simp [e]
    ·simp [ex]
   have ih := far_bnd (k := k) r (fun q hq => hr q (by simp [hq])) (S := setB S q) (A := setB A q) (g := g) (set_lt hS hq) (set_lt hA hq) (sub_set hA hS hq h) hg (by rw [set_bit hS hq hg, g1]; rfl)
    (by rw [set_bit hA hq hg, g2]; simp [Ne.symm e]) (fun x hx a b => by
     rw [set_bit hA hq hx] at b
     rw [set_bit hS hq hx] at a
     simp only [Bool.or_eq_false_iff, decide_eq_false_iff_not, Bool.or_eq_true, decide_eq_true_eq] at a b
     have := hf x hx (a.elim id fun e => absurd e b.2) b.1
     have hb : (q == x) = false := by simpa using Ne.symm b.2
     have hb2 : (q == g) = false := by simpa using e
     rw [List.idxOf_cons, List.idxOf_cons, hb, hb2] at this
     simp at this
     exact this)
   rw [cnt_set hS hq, cnt_set hA hq] at ih
   simp only [bnd]
   rw [e2, clr_bit hS hg hq, decide_eq_false e]
   have c4 := h q hq
   cases a : A.testBit q <;> cases b : S.testBit q <;> rw [a, b] at ih <;> simp only [nb, Bool.not_false, Bool.and_true, Bool.false_eq_true, if_true, if_false] at ih ⊢ <;> first | omega | exact absurd (c4 a) (by rw [b]; decide)
def minL : List Nat → Nat
 | [] => 0
 | [a] => a
 | a :: b :: l => min a (minL (b :: l))
theorem minL_le : ∀ {l : List Nat} {a : Nat}, a ∈ l → minL l ≤ a
 | [b], a, h => by simp at h; subst h; exact Nat.le_refl _
 | b :: c :: l, a, h => by
  rcases List.mem_cons.1 h with rfl | h
  ·exact Nat.min_le_left _ _
  ·exact Nat.le_trans (Nat.min_le_right _ _) (minL_le h)
theorem minL_mem : ∀ {l : List Nat}, l ≠ [] → minL l ∈ l
 | [b], _ => by simp [minL]
 | b :: c :: l, _ => by
  have := minL_mem (l := c :: l) (by simp)
  simp only [minL]
  rcases Nat.le_total b (minL (c :: l)) with h | h
  ·rw [Nat.min_eq_left h]; simp
  ·rw [Nat.min_eq_right h]; exact List.mem_cons_of_mem _ this
def need (room : Int) : List Nat → Nat → Nat
 | [], _ => 0
 | p :: r, s => if s.testBit p then need room r s else if (cnt s : Int) < room then need room r (setB s p) + 1 else minL ((bitsN s).map fun g => need room r (setB (clrB s g) p)) + 1
theorem bitsN_mem {s g : Nat} (h : s < 64) : g ∈ bitsN s ↔ g < 6 ∧ s.testBit g = true := by
 unfold bitsN
 rw [List.mem_filter, List.mem_range]
 constructor
 ·rintro ⟨_, h2⟩
  refine ⟨?_, h2⟩
  rcases Nat.lt_or_ge g 6 with h3 | h3
  ·exact h3
  ·have h4 : 2 ^ 6 ≤ 2 ^ g := Nat.pow_le_pow_right (by decide) h3
   rw [Nat.testBit_lt_two_pow (by omega)] at h2; cases h2
 ·rintro ⟨h1, h2⟩; exact ⟨by omega, h2⟩
theorem bitsN_len {s : Nat} : (bitsN s).length = cnt s := rfl
theorem exists_max {f : Nat → Nat} : ∀ {l : List Nat}, l ≠ [] → ∃ g, g ∈ l ∧ ∀ x ∈ l, f x ≤ f g
 | [a], _ => ⟨a, by simp, by simp⟩
 | a :: b :: l, _ => by
  obtain ⟨g, h1, h2⟩ := exists_max (f := f) (l := b :: l) (by simp)
  rcases Nat.le_total (f a) (f g) with h | h
  ·exact ⟨g, List.mem_cons_of_mem _ h1, fun x hx => by
    rcases List.mem_cons.1 hx with rfl | hx
    ·exact h
    ·exact h2 x hx⟩
  ·exact ⟨a, by simp, fun x hx => by
    rcases List.mem_cons.1 hx with rfl | hx
    ·exact Nat.le_refl _
    ·exact Nat.le_trans (h2 x hx) h⟩
theorem zero_bit {q : Nat} : Nat.testBit 0 q = false := Nat.zero_testBit q
theorem cnt_zero : cnt 0 = 0 := by decide
section
variable {room : Int} {r : List Nat} {s p g : Nat}
theorem set_clr (hs : s < 64) (hp : p < 6) (hg : g < 6) (hne : p ≠ g) : setB (clrB s g) p = clrB (setB s p) g := by
 refine ext6 (set_lt (clr_lt hs hg) hp) (clr_lt (set_lt hs hp) hg) fun x hx => ?_
 rw [set_bit (clr_lt hs hg) hp hx, clr_bit hs hg hx, clr_bit (set_lt hs hp) hg hx, set_bit hs hp hx]
 by_cases ex : x = p
 ·subst ex; simp [hne]
 ·simp [ex]
theorem one_sub (hs : s < 64) (hp : p < 6) : sub (setB 0 p) (setB s p) := fun q hq a => by
 rw [set_bit (by decide) hp hq, zero_bit, Bool.false_or, decide_eq_true_eq] at a
 rw [set_bit hs hp hq, a]; simp
theorem cnt_swap (hs : s < 64) (hp : p < 6) (hg : g < 6) (hb : s.testBit g = true) (hpb : s.testBit p = false) : cnt (setB (clrB s g) p) = cnt s := by
 have := cnt_clr hs hg hb
 rw [cnt_set (clr_lt hs hg) hp, clr_bit hs hg hp, hpb]
 simp [nb]; omega
theorem swap_ge (hr : ∀ q ∈ r, q < 6) (hs : s < 64) (hp : p < 6) (hg : g < 6) (hb : s.testBit g = true) (hpb : s.testBit p = false) (hc : (cnt s : Int) = room) :
  max (bnd room r (setB s p)) (bnd room r (setB 0 p) - (room - 1)) ≤ bnd room r (setB (clrB s g) p) := by
 have h1 := (bnd_sub (k := room) r hr (set_lt (clr_lt hs hg) hp) (set_lt hs hp) (fun q hq a => by
  rw [set_bit (clr_lt hs hg) hp hq, clr_bit hs hg hq] at a
  rw [set_bit hs hp hq]
  simp only [Bool.or_eq_true, Bool.and_eq_true, decide_eq_true_eq] at a ⊢
  exact a.imp (·.1) id)).1
 have h2 := (bnd_sub (k := room) r hr (set_lt (by decide) hp) (set_lt (clr_lt hs hg) hp) (one_sub (clr_lt hs hg) hp)).2
 rw [cnt_swap hs hp hg hb hpb, cnt_set (by decide) hp, zero_bit, cnt_zero] at h2
 simp [nb] at h2
 omega
theorem swap_le (hr : ∀ q ∈ r, q < 6) (hs : s < 64) (hp : p < 6) (hg : g < 6) (hb : s.testBit g = true) (hpb : s.testBit p = false) (hc : (cnt s : Int) = room) (hf : ∀ x ∈ bitsN s, r.idxOf x ≤ r.idxOf g) :
  bnd room r (setB (clrB s g) p) ≤ max (bnd room r (setB s p)) (bnd room r (setB 0 p) - (room - 1)) := by
 have hne : p ≠ g := fun e => by rw [e, hb] at hpb; cases hpb
 have := far_bnd (k := room) r hr (S := setB s p) (A := setB 0 p) (g := g) (set_lt hs hp) (set_lt (by decide) hp) (one_sub hs hp) hg (by rw [set_bit hs hp hg, hb]; rfl)
  (by rw [set_bit (by decide) hp hg, zero_bit]; simp [Ne.symm hne]) (fun x hx a b => by
   rw [set_bit (by decide) hp hx, zero_bit, Bool.false_or, decide_eq_false_iff_not] at b
   rw [set_bit hs hp hx] at a
   simp [b] at a
   exact hf x ((bitsN_mem hs).2 ⟨hx, a⟩))
 rw [cnt_set hs hp, cnt_set (by decide) hp, zero_bit, hpb, cnt_zero] at this
 rw [set_clr hs hp hg hne]
 simp [nb] at this
 omega
end
theorem need_bnd {room : Int} (h1 : 1 ≤ room) : ∀ (l : List Nat), (∀ p ∈ l, p < 6) → ∀ {s : Nat}, s < 64 → (cnt s : Int) ≤ room → (need room l s : Int) = bnd room l s
 | [], _, s, hs, hc => rfl
 | p :: r, hl, s, hs, hc => by
  have hp := hl p (by simp)
  have hr : ∀ q ∈ r, q < 6 := fun q hq => hl q (by simp [hq])
  simp only [need, bnd]
  have one := (bnd_sub (k := room) r hr (set_lt (by decide) hp) (set_lt hs hp) (one_sub hs hp)).2
  rw [cnt_set (by decide) hp, zero_bit, cnt_zero, cnt_set hs hp] at one
  by_cases hb : s.testBit p = true
  ·have e : setB s p = s := by unfold setB; rw [if_pos hb]
   rw [if_pos hb, need_bnd h1 r hr hs hc, e]
   rw [e, hb] at one
   rw [hb]
   simp [nb] at *
   omega
  ·have hb' : s.testBit p = false := by simpa using hb
   rw [if_neg hb]
   by_cases hl2 : (cnt s : Int) < room
   ·rw [if_pos hl2]
    have := need_bnd h1 r hr (set_lt hs hp) (by rw [cnt_set hs hp, hb']; simp [nb]; omega)
    rw [hb'] at one ⊢
    simp [nb] at *
    omega
   ·rw [if_neg hl2]
    have hc' : (cnt s : Int) = room := by omega
    have key : ∀ g ∈ bitsN s, (need room r (setB (clrB s g) p) : Int) = bnd room r (setB (clrB s g) p) := fun g hg => by
     obtain ⟨g6, gb⟩ := (bitsN_mem hs).1 hg
     exact need_bnd h1 r hr (set_lt (clr_lt hs g6) hp) (by rw [cnt_swap hs hp g6 gb hb']; omega)
    have hne : bitsN s ≠ [] := fun e => by
     have := bitsN_len (s := s)
     rw [e] at this; simp at this; omega
    obtain ⟨g, hg, hmax⟩ := exists_max (f := fun x => r.idxOf x) hne
    obtain ⟨g6, gb⟩ := (bitsN_mem hs).1 hg
    have u := swap_le hr hs hp g6 gb hb' hc' hmax
    have hmem := minL_mem (l := (bitsN s).map fun g => need room r (setB (clrB s g) p)) (by simpa using hne)
    have hle := minL_le (l := (bitsN s).map fun g => need room r (setB (clrB s g) p)) (List.mem_map_of_mem hg)
    obtain ⟨g', hg', e'⟩ := List.mem_map.1 hmem
    obtain ⟨g6', gb'⟩ := (bitsN_mem hs).1 hg'
    have v := swap_ge hr hs hp g6' gb' hb' hc'
    have k1 := key g hg
    have k2 := key g' hg'
    rw [hb']
    simp only [nb]
    rw [← e'] at hle ⊢
    simp
    omega
end Go.Proofs.YtcdhajbhpnbdkaaDoor
set_option linter.unusedSimpArgs false
set_option linter.unusedVariables false
namespace Go.Proofs.YtcdhajbhpnbdkaaDoor
open Go.Abs Go.Pur
set_option maxRecDepth 100000
def fresh (x : Nat) : List (Nat × Bool) → Bool
 | [] => false
 | (q, b) :: r => if q = x then true else if b then false else fresh x r
def unhit : List (Nat × Bool) → Nat
 | [] => 0
 | (p, _) :: r => (fresh p r).toNat + unhit r
def flags : List (Nat × Bool) → Nat
 | [] => 0
 | (_, b) :: r => b.toNat + flags r
def val (k : Int) : List (Nat × Bool) → Nat → Int
 | [], _ => 0
 | (p, b) :: r, H => nb (H.testBit p) + if b then val k r (setB 0 p) - (k - 1) else val k r (setB H p)
def fr (H x : Nat) (l : List (Nat × Bool)) : Nat := (H.testBit x && fresh x l).toNat
def frs (H : Nat) (l : List (Nat × Bool)) : Nat := fr H 0 l + fr H 1 l + fr H 2 l + fr H 3 l + fr H 4 l + fr H 5 l
theorem frs_zero {l : List (Nat × Bool)} : frs 0 l = 0 := by simp [frs, fr]
theorem frs_nil {H : Nat} : frs H [] = 0 := by simp [frs, fr, fresh]
theorem fr_cons {H x p : Nat} {b : Bool} {r : List (Nat × Bool)} : fr H x ((p, b) :: r) = if p = x then (H.testBit x).toNat else if b then 0 else fr H x r := by
 unfold fr
 simp only [fresh]
 split
 ·simp
 ·split <;> simp
theorem fr_set {H x p : Nat} {r : List (Nat × Bool)} (hH : H < 64) (hp : p < 6) (hx : x < 6) : fr (setB H p) x r = if p = x then (fresh p r).toNat else fr H x r := by
 unfold fr
 rw [set_bit hH hp hx]
 by_cases e : p = x
 ·subst e; simp
 ·simp [e, Ne.symm e]
theorem frs_set {H p : Nat} {r : List (Nat × Bool)} (hH : H < 64) (hp : p < 6) : frs (setB H p) r + fr H p r = (fresh p r).toNat + frs H r := by
 unfold frs
 rw [fr_set hH hp (by omega), fr_set hH hp (by omega), fr_set hH hp (by omega), fr_set hH hp (by omega), fr_set hH hp (by omega), fr_set hH hp (by omega)]
 rcases six_cases hp with rfl | rfl | rfl | rfl | rfl | rfl <;> simp <;> omega
theorem fr_zero {x : Nat} {r : List (Nat × Bool)} : fr 0 x r = 0 := by simp [fr]
theorem frs_true {H p : Nat} {r : List (Nat × Bool)} (hp : p < 6) : frs H ((p, true) :: r) = (H.testBit p).toNat := by
 unfold frs
 rw [fr_cons, fr_cons, fr_cons, fr_cons, fr_cons, fr_cons]
 rcases six_cases hp with rfl | rfl | rfl | rfl | rfl | rfl <;> simp
theorem val_eq {k : Int} : ∀ (l : List (Nat × Bool)), (∀ x ∈ l, x.1 < 6) → ∀ {H : Nat}, H < 64 → val k l H = l.length - (k - 1) * flags l - unhit l - frs H l
 | [], _, H, hH => by simp [val, flags, unhit, frs_nil]
 | (p, b) :: r, hl, H, hH => by
  have hp : p < 6 := hl (p, b) (by simp)
  have hr : ∀ x ∈ r, x.1 < 6 := fun x hx => hl x (by simp [hx])
  have i1 := val_eq (k := k) r hr (set_lt (show 0 < 64 by decide) hp)
  have i2 := val_eq (k := k) r hr (set_lt hH hp)
  have f := @frs_set H p r hH hp
  have f0 := @frs_set 0 p r (by decide) hp
  rw [fr_zero, frs_zero] at f0
  have f1 := @frs_true H p r hp
  have g : fr H p r ≤ frs H r := by unfold frs; rcases six_cases hp with rfl | rfl | rfl | rfl | rfl | rfl <;> omega
  have f2 : frs H ((p, false) :: r) + fr H p r = (H.testBit p).toNat + frs H r := by
   unfold frs
   rw [fr_cons, fr_cons, fr_cons, fr_cons, fr_cons, fr_cons]
   rcases six_cases hp with rfl | rfl | rfl | rfl | rfl | rfl <;> simp <;> omega
  have e1 : nb (H.testBit p) + (H.testBit p).toNat = 1 := by cases H.testBit p <;> rfl
  simp only [val, flags, unhit, List.length_cons]
  have e2 : (k - 1) * ((flags r + 1 : Nat) : Int) = (k - 1) * flags r + (k - 1) := by rw [Int.natCast_add, Int.mul_add]; simp
  cases b with
  | true =>
   simp only [eq_self, if_true, Bool.toNat_true]
   rw [Nat.add_comm 1, e2, i1]
   omega
  | false =>
   simp only [Bool.false_eq_true, if_false, Bool.toNat_false, Nat.zero_add]
   rw [i2]
   omega
theorem val_le {k : Int} : ∀ (l : List (Nat × Bool)) {H : Nat}, val k l H ≤ bnd k (l.map (·.1)) H
 | [], H => Int.le_refl _
 | (p, b) :: r, H => by
  have i1 := val_le (k := k) r (H := setB 0 p)
  have i2 := val_le (k := k) r (H := setB H p)
  simp only [val, bnd, List.map_cons]
  cases b <;> simp <;> omega
theorem val_max {k : Int} : ∀ (l : List Nat) {H : Nat}, ∃ bs : List Bool, bs.length = l.length ∧ val k (l.zip bs) H = bnd k l H
 | [], H => ⟨[], rfl, rfl⟩
 | p :: r, H => by
  obtain ⟨b1, h1, e1⟩ := val_max (k := k) r (H := setB 0 p)
  obtain ⟨b2, h2, e2⟩ := val_max (k := k) r (H := setB H p)
  rcases Int.le_total (bnd k r (setB H p)) (bnd k r (setB 0 p) - (k - 1)) with h | h
  ·refine ⟨true :: b1, by simp [h1], ?_⟩
   simp only [List.zip_cons_cons, val, bnd, e1, if_true]
   omega
  ·refine ⟨false :: b2, by simp [h2], ?_⟩
   simp only [List.zip_cons_cons, val, bnd, e2, Bool.false_eq_true, if_false]
   omega
def boundF (k : Int) (l : List (Nat × Bool)) : Int := l.length - (k - 1) * flags l - unhit l
theorem boundF_eq {k : Int} {l : List (Nat × Bool)} (hl : ∀ x ∈ l, x.1 < 6) : boundF k l = val k l 0 := by
 rw [val_eq l hl (by decide), frs_zero]
 unfold boundF
 omega
theorem boundF_le {room : Int} {l : List (Nat × Bool)} (h1 : 1 ≤ room) (hl : ∀ x ∈ l, x.1 < 6) : boundF room l ≤ need room (l.map (·.1)) 0 := by
 rw [boundF_eq hl, need_bnd h1 _ (fun p hp => by obtain ⟨x, hx, rfl⟩ := List.mem_map.1 hp; exact hl x hx) (by decide) (by rw [cnt_zero]; omega)]
 exact val_le l
theorem boundF_max {room : Int} {l : List Nat} (h1 : 1 ≤ room) (hl : ∀ p ∈ l, p < 6) : ∃ bs : List Bool, bs.length = l.length ∧ boundF room (l.zip bs) = need room l 0 := by
 obtain ⟨bs, h, e⟩ := val_max (k := room) l (H := 0)
 refine ⟨bs, h, ?_⟩
 rw [boundF_eq (fun x hx => hl _ (List.of_mem_zip (show (x.1, x.2) ∈ l.zip bs from hx)).1), e, need_bnd h1 l hl (by decide) (by rw [cnt_zero]; omega)]
end Go.Proofs.YtcdhajbhpnbdkaaDoor
set_option linter.unusedSimpArgs false
set_option linter.unusedVariables false
namespace Go.Proofs.YtcdhajbhpnbdkaaDoor
open Go.Abs Go.Pur
set_option maxRecDepth 100000
def bjoin (out x : Nat × Nat) : Nat × Nat := if out = (0, 0) ∨ x.1 < out.1 then x else if x.1 = out.1 then (out.1, out.2 + x.2) else out
def bst (room : Int) : List Nat → Nat → Nat × Nat
 | [], _ => (0, 1)
 | p :: r, s => if s.testBit p then bst room r s else if (cnt s : Int) < room then ((bst room r (setB s p)).1 + 1, (bst room r (setB s p)).2)
  else (bitsN s).foldl (fun out g => bjoin out ((bst room r (setB (clrB s g) p)).1 + 1, (bst room r (setB (clrB s g) p)).2)) (0, 0)
def sumAt (m : Nat) : List (Nat × Nat) → Nat
 | [] => 0
 | x :: l => (if x.1 = m then x.2 else 0) + sumAt m l
theorem bjoin_fold : ∀ (l : List (Nat × Nat)) (out : Nat × Nat), out ≠ (0, 0) → 1 ≤ out.1 → (∀ x ∈ l, 1 ≤ x.1) →
  (l.foldl bjoin out).1 = minL (out.1 :: l.map (·.1)) ∧ (l.foldl bjoin out).2 = sumAt (minL (out.1 :: l.map (·.1))) (out :: l)
 | [], out, h0, h1, hl => by simp [minL, sumAt]
 | x :: l, out, h0, h1, hl => by
  have hx := hl x (by simp)
  have hl' : ∀ y ∈ l, 1 ≤ y.1 := fun y hy => hl y (by simp [hy])
  have hmin : ∀ a b, minL (a :: b :: l.map (·.1)) = minL ((min a b) :: l.map (·.1)) := fun a b => by
   cases l with
   | nil => simp [minL]
   | cons y l => simp only [minL, List.map_cons]; omega
  have hle : ∀ a, minL (a :: l.map (·.1)) ≤ a := fun a => minL_le (by simp)
  simp only [List.foldl_cons, List.map_cons]
  rw [hmin]
  by_cases c1 : x.1 < out.1
  ·have e : bjoin out x = x := by unfold bjoin; rw [if_pos (Or.inr c1)]
   rw [e]
   obtain ⟨i1, i2⟩ := bjoin_fold l x (fun e => by rw [e] at hx; simp at hx) hx hl'
   rw [Nat.min_eq_right (by omega)]
   refine ⟨i1, ?_⟩
   rw [i2]
   simp only [sumAt]
   have := hle x.1
   rw [if_neg (show ¬ out.1 = _ by omega), Nat.zero_add]
  ·by_cases c2 : x.1 = out.1
   ·have e : bjoin out x = (out.1, out.2 + x.2) := by unfold bjoin; rw [if_neg (by simp [h0, c1]), if_pos c2]
    rw [e]
    obtain ⟨i1, i2⟩ := bjoin_fold l (out.1, out.2 + x.2) (fun e => by simp at e; omega) h1 hl'
    rw [Nat.min_eq_left (by omega)]
    refine ⟨i1, ?_⟩
    rw [i2]
    simp only [sumAt]
    rw [c2]
    split <;> omega
   ·have e : bjoin out x = out := by unfold bjoin; rw [if_neg (by simp [h0, c1]), if_neg c2]
    rw [e]
    obtain ⟨i1, i2⟩ := bjoin_fold l out h0 h1 hl'
    rw [Nat.min_eq_left (by omega)]
    refine ⟨i1, ?_⟩
    rw [i2]
    simp only [sumAt]
    have := hle out.1
    rw [if_neg (show ¬ x.1 = _ by omega), Nat.zero_add]
theorem bjoin_all {l : List (Nat × Nat)} (hne : l ≠ []) (hl : ∀ x ∈ l, 1 ≤ x.1) : l.foldl bjoin (0, 0) = (minL (l.map (·.1)), sumAt (minL (l.map (·.1))) l) := by
 obtain ⟨x, r, rfl⟩ := List.exists_cons_of_ne_nil hne
 have hx := hl x (by simp)
 have e : bjoin (0, 0) x = x := by unfold bjoin; rw [if_pos (Or.inl rfl)]
 simp only [List.foldl_cons, e]
 obtain ⟨a, b⟩ := bjoin_fold r x (fun e => by rw [e] at hx; simp at hx) hx (fun y hy => hl y (by simp [hy]))
 exact Prod.ext a b
theorem minL_map_add : ∀ {l : List Nat}, l ≠ [] → minL (l.map (· + 1)) = minL l + 1
 | [a], _ => rfl
 | a :: b :: l, _ => by
  have := minL_map_add (l := b :: l) (by simp)
  simp only [List.map_cons] at this ⊢
  simp only [minL]
  rw [this]
  omega
section
variable {room : Int}
theorem bits_ne {s : Nat} (h1 : 1 ≤ room) (h : ¬ (cnt s : Int) < room) : bitsN s ≠ [] := fun e => by
 have := bitsN_len (s := s)
 rw [e] at this; simp at this; omega
theorem bst_full {p s : Nat} {r : List Nat} : (bitsN s).foldl (fun out g => bjoin out ((bst room r (setB (clrB s g) p)).1 + 1, (bst room r (setB (clrB s g) p)).2)) (0, 0) =
  ((bitsN s).map fun g => ((bst room r (setB (clrB s g) p)).1 + 1, (bst room r (setB (clrB s g) p)).2)).foldl bjoin (0, 0) := by
 rw [List.foldl_map]
theorem bst_need (h1 : 1 ≤ room) : ∀ (l : List Nat) (s : Nat), (bst room l s).1 = need room l s
 | [], s => rfl
 | p :: r, s => by
  simp only [bst, need]
  split
  ·exact bst_need h1 r s
  ·split
   ·rw [← bst_need h1 r]
   ·rename_i h2
    have hne := bits_ne h1 h2
    rw [bst_full, bjoin_all (by simpa using hne) (by simp)]
    simp only [List.map_map]
    have : (bitsN s).map ((fun x : Nat × Nat => x.1) ∘ fun g => ((bst room r (setB (clrB s g) p)).1 + 1, (bst room r (setB (clrB s g) p)).2)) = ((bitsN s).map fun g => need room r (setB (clrB s g) p)).map (· + 1) := by
     rw [List.map_map]
     refine List.map_congr_left fun g _ => ?_
     simp only [Function.comp]
     rw [bst_need h1 r]
    rw [this, minL_map_add (by simpa using hne)]
def ways (room : Int) (l : List Nat) (s : Nat) : Nat := (bst room l s).2
def firstN (room : Int) : List Nat → Nat → List Int
 | [], _ => []
 | p :: r, s => if s.testBit p then -1 :: firstN room r s else if (cnt s : Int) < room then -1 :: firstN room r (setB s p)
  else match (bitsN s).find? fun g => decide (need room r (setB (clrB s g) p) + 1 = need room (p :: r) s) with
   | some g => (g : Int) :: firstN room r (setB (clrB s g) p)
   | none => []
end
theorem bjoin_le {M N : Nat} : ∀ (l : List (Nat × Nat)) (out : Nat × Nat) (A : Nat), out.1 ≤ N → out.2 ≤ A → (∀ x ∈ l, x.1 ≤ N ∧ x.2 ≤ M) → (l.foldl bjoin out).1 ≤ N ∧ (l.foldl bjoin out).2 ≤ A + l.length * M
 | [], out, A, h1, h2, _ => ⟨h1, by simpa using h2⟩
 | x :: l, out, A, h1, h2, hl => by
  obtain ⟨a, b⟩ := hl x (by simp)
  simp only [List.foldl_cons, List.length_cons]
  have e : (bjoin out x).1 ≤ N ∧ (bjoin out x).2 ≤ A + M := by
   unfold bjoin
   split
   ·exact ⟨a, by omega⟩
   ·split
    ·exact ⟨h1, by simp; omega⟩
    ·exact ⟨h1, by omega⟩
  obtain ⟨c, d⟩ := bjoin_le l (bjoin out x) (A + M) e.1 e.2 (fun y hy => hl y (by simp [hy]))
  refine ⟨c, Nat.le_trans d ?_⟩
  rw [Nat.add_mul]; omega
theorem bitsN_le {s : Nat} : (bitsN s).length ≤ 12 := by
 have := List.length_filter_le (fun i => s.testBit i) (List.range 12)
 simpa [bitsN] using this
theorem bst_le {room : Int} : ∀ (l : List Nat) (s : Nat), (bst room l s).1 ≤ l.length ∧ (bst room l s).2 ≤ 12 ^ l.length
 | [], s => by simp [bst]
 | p :: r, s => by
  have i0 := bst_le (room := room) r s
  have i1 := bst_le (room := room) r (setB s p)
  have hp : (12 : Nat) ^ (p :: r).length = 12 ^ r.length * 12 := by rw [List.length_cons, Nat.pow_succ]
  rw [hp, List.length_cons]
  simp only [bst]
  split
  ·omega
  ·split
   ·simp only; omega
   ·rw [bst_full]
    have := bjoin_le (M := 12 ^ r.length) (N := r.length + 1) ((bitsN s).map fun g => ((bst room r (setB (clrB s g) p)).1 + 1, (bst room r (setB (clrB s g) p)).2)) (0, 0) 0 (by simp) (by simp) (fun x hx => by
     obtain ⟨g, _, rfl⟩ := List.mem_map.1 hx
     have := bst_le (room := room) r (setB (clrB s g) p)
     exact ⟨by simp only; omega, this.2⟩)
    refine ⟨this.1, Nat.le_trans this.2 ?_⟩
    rw [List.length_map, Nat.zero_add, Nat.mul_comm]
    exact Nat.mul_le_mul_left _ bitsN_le
end Go.Proofs.YtcdhajbhpnbdkaaDoor
set_option linter.unusedSimpArgs false
set_option linter.unusedVariables false
namespace Go.Proofs.YtcdhajbhpnbdkaaDoor
open Go.Abs Go.Pur
set_option maxRecDepth 100000
def free (x : Nat) (A : List (Nat × Bool)) : Bool := A.all fun y => !decide (y.1 = x) && !y.2
theorem fresh_snoc {x y : Nat} {d : Bool} : ∀ (A : List (Nat × Bool)), fresh x (A ++ [(y, d)]) = (fresh x A || (free x A && decide (y = x)))
 | [] => by simp [fresh, free]
 | (q, b) :: r => by
  simp only [List.cons_append, fresh]
  have ih := fresh_snoc (x := x) (y := y) (d := d) r
  have e : free x ((q, b) :: r) = ((!decide (q = x) && !b) && free x r) := by simp [free]
  rw [e]
  by_cases h : q = x
  ·simp [h]
  ·cases b
   ·simp [h, ih]
   ·simp [h]
theorem fresh_free {x : Nat} : ∀ {A : List (Nat × Bool)}, fresh x A = true → free x A = false
 | (q, b) :: r, h => by
  simp only [fresh] at h
  have e : free x ((q, b) :: r) = ((!decide (q = x) && !b) && free x r) := by simp [free]
  rw [e]
  split at h
  ·rename_i h1; simp [h1]
  ·split at h
   ·rename_i h2; simp [h2]
   ·rw [fresh_free h]; simp
theorem free_rev {x : Nat} {A : List (Nat × Bool)} : free x A.reverse = free x A := by simp [free]
theorem fresh_swap {p q : Nat} {b c : Bool} {l : List (Nat × Bool)} : (fresh q (l ++ [(p, b)])).toNat + (fresh p l.reverse).toNat = (fresh q l).toNat + (fresh p (l.reverse ++ [(q, c)])).toNat := by
 rw [fresh_snoc, fresh_snoc, free_rev]
 by_cases h : p = q
 ·subst h
  simp only [decide_true, Bool.and_true]
  cases e1 : fresh p l with
  | true =>
   have h1 := fresh_free e1
   simp [h1]
  | false =>
   cases e2 : fresh p l.reverse with
   | true =>
    have h2 := fresh_free e2
    rw [free_rev] at h2
    simp [h2]
   | false => simp
 ·simp [h, Ne.symm h]
theorem unhit_snoc {p : Nat} {b : Bool} : ∀ (l : List (Nat × Bool)), unhit (l ++ [(p, b)]) = unhit l + (fresh p l.reverse).toNat
 | [] => by simp [unhit, fresh]
 | (q, c) :: l => by
  have ih := unhit_snoc (p := p) (b := b) l
  have h := @fresh_swap p q b c l
  simp only [List.cons_append, unhit, List.reverse_cons, ih]
  omega
theorem unhit_rev : ∀ (l : List (Nat × Bool)), unhit l.reverse = unhit l
 | [] => rfl
 | (q, c) :: l => by
  rw [List.reverse_cons, unhit_snoc, List.reverse_reverse, unhit_rev l]
  simp only [unhit]; omega
theorem flags_app : ∀ (l m : List (Nat × Bool)), flags (l ++ m) = flags l + flags m
 | [], m => by simp [flags]
 | (p, b) :: l, m => by simp only [List.cons_append, flags, flags_app l m]; omega
theorem flags_rev : ∀ (l : List (Nat × Bool)), flags l.reverse = flags l
 | [] => rfl
 | (p, b) :: l => by
  rw [List.reverse_cons, flags_app, flags_rev l]
  simp only [flags]; omega
theorem boundF_rev {k : Int} {l : List (Nat × Bool)} : boundF k l.reverse = boundF k l := by
 unfold boundF
 rw [List.length_reverse, flags_rev, unhit_rev]
theorem zip_rev {α β : Type} : ∀ {l : List α} {m : List β}, l.length = m.length → (l.zip m).reverse = l.reverse.zip m.reverse
 | [], [], _ => rfl
 | a :: l, b :: m, h => by
  have h' : l.length = m.length := by simpa using h
  rw [List.zip_cons_cons, List.reverse_cons, List.reverse_cons, List.reverse_cons, zip_rev h', List.zip_append (by simp [h'])]
  rfl
theorem map_zip {α β : Type} : ∀ {l : List α} {m : List β}, m.length = l.length → (l.zip m).map (·.1) = l
 | [], [], _ => rfl
 | a :: l, b :: m, h => by
  rw [List.zip_cons_cons, List.map_cons, map_zip (by simpa using h)]
theorem need_rev {room : Int} {l : List Nat} (h1 : 1 ≤ room) (hl : ∀ p ∈ l, p < 6) : need room l.reverse 0 = need room l 0 := by
 have key : ∀ (l : List Nat), (∀ p ∈ l, p < 6) → need room l 0 ≤ need room l.reverse 0 := fun l hl => by
  obtain ⟨bs, e1, e2⟩ := boundF_max (room := room) h1 hl
  have h6 : ∀ x ∈ (l.zip bs).reverse, x.1 < 6 := fun x hx => by
   rw [List.mem_reverse] at hx
   exact hl _ (List.of_mem_zip (show (x.1, x.2) ∈ l.zip bs from hx)).1
  have := boundF_le (l := (l.zip bs).reverse) h1 h6
  rw [boundF_rev, e2, List.map_reverse, map_zip e1] at this
  omega
 have a := key l hl
 have b := key l.reverse (fun p hp => hl p (by simpa using hp))
 rw [List.reverse_reverse] at b
 omega
end Go.Proofs.YtcdhajbhpnbdkaaDoor

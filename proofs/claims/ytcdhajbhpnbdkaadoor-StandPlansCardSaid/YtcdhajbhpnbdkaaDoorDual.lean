/-
  The fewest settings: the search over all plans, and the bound by times, have the same value; the one that is needed last may be distributed.
  Conditions: none; definitions and lemmas.
-/
import Derived.Test.YtcdhajbhpnbdkaaDoorRunsLaw
set_option linter.unusedSimpArgs false
set_option linter.unusedVariables false
namespace Go.Proofs.YtcdhajbhpnbdkaaDoor
open Go.Abs Go.Pur
set_option maxRecDepth 100000
theorem cnt6 {s : Nat} (h : s < 64) : cnt s = (s.testBit 0).toNat + (s.testBit 1).toNat + (s.testBit 2).toNat + (s.testBit 3).toNat + (s.testBit 4).toNat + (s.testBit 5).toNat := by
  have : (List.range 64).all (fun s => decide (cnt s = (s.testBit 0).toNat + (s.testBit 1).toNat + (s.testBit 2).toNat + (s.testBit 3).toNat + (s.testBit 4).toNat + (s.testBit 5).toNat)) = true := by kernel_rfl
  rw [List.all_eq_true] at this
  simpa using this s (List.mem_range.2 h)
theorem ext6 {s t : Nat} (hs : s < 64) (ht : t < 64) (h : ∀ q, q < 6 → s.testBit q = t.testBit q) : s = t := by
  refine Nat.eq_of_testBit_eq fun i => ?_
  rcases Nat.lt_or_ge i 6 with hi | hi
  · exact h i hi
  · have h2 : 2 ^ 6 ≤ 2 ^ i := Nat.pow_le_pow_right (by decide) hi
    rw [Nat.testBit_lt_two_pow (by omega), Nat.testBit_lt_two_pow (by omega)]
theorem set_lt {s p : Nat} (h : s < 64) (hp : p < 6) : setB s p < 64 := (bit_at h hp).2.2.2.2.1
theorem clr_lt {s p : Nat} (h : s < 64) (hp : p < 6) : clrB s p < 64 := (bit_at h hp).2.2.2.1
theorem set_bit {s p q : Nat} (h : s < 64) (hp : p < 6) (hq : q < 6) : (setB s p).testBit q = (s.testBit q || decide (q = p)) := ((bit_at h hp).2.2.2.2.2 q hq).2
theorem clr_bit {s p q : Nat} (h : s < 64) (hp : p < 6) (hq : q < 6) : (clrB s p).testBit q = (s.testBit q && !decide (q = p)) := ((bit_at h hp).2.2.2.2.2 q hq).1
def nb (b : Bool) : Nat := if b then 0 else 1
theorem cnt_set {s p : Nat} (h : s < 64) (hp : p < 6) : cnt (setB s p) = cnt s + nb (s.testBit p) := by
  rw [cnt6 (set_lt h hp), cnt6 h, set_bit h hp (by omega), set_bit h hp (by omega), set_bit h hp (by omega), set_bit h hp (by omega), set_bit h hp (by omega), set_bit h hp (by omega)]
  cases hb : s.testBit p <;> rcases six_cases hp with rfl | rfl | rfl | rfl | rfl | rfl <;> simp [hb, nb] <;> omega
theorem cnt_clr {s p : Nat} (h : s < 64) (hp : p < 6) (hb : s.testBit p = true) : cnt (clrB s p) + 1 = cnt s := by
  rw [cnt6 (clr_lt h hp), cnt6 h, clr_bit h hp (by omega), clr_bit h hp (by omega), clr_bit h hp (by omega), clr_bit h hp (by omega), clr_bit h hp (by omega), clr_bit h hp (by omega)]
  rcases six_cases hp with rfl | rfl | rfl | rfl | rfl | rfl <;> simp [hb] <;> omega
def sub (H S : Nat) : Prop := ∀ q, q < 6 → H.testBit q = true → S.testBit q = true
theorem toNat_le {a b : Bool} (h : a = true → b = true) : a.toNat ≤ b.toNat := by
  cases a <;> cases b <;> simp_all
theorem sub_cnt {H S : Nat} (hH : H < 64) (hS : S < 64) (h : sub H S) : cnt H ≤ cnt S ∧ ∀ p, p < 6 → S.testBit p = true → H.testBit p = false → cnt H + 1 ≤ cnt S := by
  have h0 := toNat_le (h 0 (by omega))
  have h1 := toNat_le (h 1 (by omega))
  have h2 := toNat_le (h 2 (by omega))
  have h3 := toNat_le (h 3 (by omega))
  have h4 := toNat_le (h 4 (by omega))
  have h5 := toNat_le (h 5 (by omega))
  rw [cnt6 hH, cnt6 hS]
  refine ⟨by omega, fun p hp a b => ?_⟩
  rcases six_cases hp with rfl | rfl | rfl | rfl | rfl | rfl <;> simp only [a, b, Bool.toNat_true, Bool.toNat_false] at * <;> omega
theorem sub_set {H S p : Nat} (hH : H < 64) (hS : S < 64) (hp : p < 6) (h : sub H S) : sub (setB H p) (setB S p) := fun q hq a => by
  rw [set_bit hH hp hq] at a
  rw [set_bit hS hp hq]
  simp only [Bool.or_eq_true, decide_eq_true_eq] at a ⊢
  exact a.imp (h q hq) id
def bnd (k : Int) : List Nat → Nat → Int
  | [], _ => 0
  | p :: r, H => nb (H.testBit p) + max (bnd k r (setB H p)) (bnd k r (setB 0 p) - (k - 1))
theorem bnd_sub {k : Int} : ∀ (r : List Nat), (∀ p ∈ r, p < 6) → ∀ {H S : Nat}, H < 64 → S < 64 → sub H S → bnd k r S ≤ bnd k r H ∧ bnd k r H + cnt H ≤ bnd k r S + cnt S
  | [], _, H, S, hH, hS, h => by
    have := (sub_cnt hH hS h).1
    simp only [bnd]; omega
  | p :: r, hr, H, S, hH, hS, h => by
    have hp := hr p (by simp)
    obtain ⟨i1, i2⟩ := bnd_sub (k := k) r (fun q hq => hr q (by simp [hq])) (set_lt hH hp) (set_lt hS hp) (sub_set hH hS hp h)
    obtain ⟨c1, c2⟩ := sub_cnt hH hS h
    rw [cnt_set hH hp, cnt_set hS hp] at i2
    have c3 := c2 p hp
    have c4 := h p hp
    simp only [bnd]
    cases a : H.testBit p <;> cases b : S.testBit p <;> simp [a, b, nb] at * <;> omega
theorem far_bnd {k : Int} : ∀ (r : List Nat), (∀ p ∈ r, p < 6) → ∀ {S A g : Nat}, S < 64 → A < 64 → sub A S → g < 6 → S.testBit g = true → A.testBit g = false → (∀ x, x < 6 → S.testBit x = true → A.testBit x = false → r.idxOf x ≤ r.idxOf g) →
    bnd k r (clrB S g) ≤ max (bnd k r S) (bnd k r A - ((cnt S : Int) - cnt A - 1))
  | [], _, S, A, g, hS, hA, h, hg, g1, g2, hf => by
    have := (sub_cnt hA hS h).2 g hg g1 g2
    simp only [bnd]; omega
  | q :: r, hr, S, A, g, hS, hA, h, hg, g1, g2, hf => by
    have hq := hr q (by simp)
    by_cases e : q = g
    · subst e
      have hSA : clrB S q = A := by
        refine ext6 (clr_lt hS hq) hA fun x hx => ?_
        rw [clr_bit hS hq hx]
        by_cases ex : x = q
        · subst ex; rw [g2]; simp
        · simp only [ex, decide_false, Bool.not_false, Bool.and_true]
          cases ha : A.testBit x with
          | true => exact h x hx ha
          | false =>
            cases hs : S.testBit x with
            | false => rfl
            | true =>
              have := hf x hx hs ha
              have hb : (q == x) = false := by simpa using Ne.symm ex
              rw [List.idxOf_cons, List.idxOf_cons, hb] at this
              simp at this
      have := cnt_clr hS hq g1
      rw [hSA] at this ⊢
      omega
    · have e2 : setB (clrB S g) q = clrB (setB S q) g := by
        refine ext6 (set_lt (clr_lt hS hg) hq) (clr_lt (set_lt hS hq) hg) fun x hx => ?_
        rw [set_bit (clr_lt hS hg) hq hx, clr_bit hS hg hx, clr_bit (set_lt hS hq) hg hx, set_bit hS hq hx]
        by_cases ex : x = q
        · subst ex; simp [e]
        · simp [ex]
      have ih := far_bnd (k := k) r (fun q hq => hr q (by simp [hq])) (S := setB S q) (A := setB A q) (g := g) (set_lt hS hq) (set_lt hA hq) (sub_set hA hS hq h) hg (by rw [set_bit hS hq hg, g1]; rfl)
        (by rw [set_bit hA hq hg, g2]; simp [Ne.symm e]) (fun x hx a b => by
          rw [set_bit hA hq hx] at b
          rw [set_bit hS hq hx] at a
          simp only [Bool.or_eq_false_iff, decide_eq_false_iff_not, Bool.or_eq_true, decide_eq_true_eq] at a b
          have := hf x hx (a.elim id fun e => absurd e b.2) b.1
          have hb : (q == x) = false := by simpa using Ne.symm b.2
          have hb2 : (q == g) = false := by simpa using e
          rw [List.idxOf_cons, List.idxOf_cons, hb, hb2] at this
          simp at this
          exact this)
      rw [cnt_set hS hq, cnt_set hA hq] at ih
      simp only [bnd]
      rw [e2, clr_bit hS hg hq, decide_eq_false e]
      have c4 := h q hq
      cases a : A.testBit q <;> cases b : S.testBit q <;> rw [a, b] at ih <;> simp only [nb, Bool.not_false, Bool.and_true, Bool.false_eq_true, if_true, if_false] at ih ⊢ <;> first | omega | exact absurd (c4 a) (by rw [b]; decide)
def minL : List Nat → Nat
  | [] => 0
  | [a] => a
  | a :: b :: l => min a (minL (b :: l))
theorem minL_le : ∀ {l : List Nat} {a : Nat}, a ∈ l → minL l ≤ a
  | [b], a, h => by simp at h; subst h; exact Nat.le_refl _
  | b :: c :: l, a, h => by
    rcases List.mem_cons.1 h with rfl | h
    · exact Nat.min_le_left _ _
    · exact Nat.le_trans (Nat.min_le_right _ _) (minL_le h)
theorem minL_mem : ∀ {l : List Nat}, l ≠ [] → minL l ∈ l
  | [b], _ => by simp [minL]
  | b :: c :: l, _ => by
    have := minL_mem (l := c :: l) (by simp)
    simp only [minL]
    rcases Nat.le_total b (minL (c :: l)) with h | h
    · rw [Nat.min_eq_left h]; simp
    · rw [Nat.min_eq_right h]; exact List.mem_cons_of_mem _ this
def need (room : Int) : List Nat → Nat → Nat
  | [], _ => 0
  | p :: r, s => if s.testBit p then need room r s else if (cnt s : Int) < room then need room r (setB s p) + 1 else minL ((bitsN s).map fun g => need room r (setB (clrB s g) p)) + 1
theorem bitsN_mem {s g : Nat} (h : s < 64) : g ∈ bitsN s ↔ g < 6 ∧ s.testBit g = true := by
  unfold bitsN
  rw [List.mem_filter, List.mem_range]
  constructor
  · rintro ⟨_, h2⟩
    refine ⟨?_, h2⟩
    rcases Nat.lt_or_ge g 6 with h3 | h3
    · exact h3
    · have h4 : 2 ^ 6 ≤ 2 ^ g := Nat.pow_le_pow_right (by decide) h3
      rw [Nat.testBit_lt_two_pow (by omega)] at h2; cases h2
  · rintro ⟨h1, h2⟩; exact ⟨by omega, h2⟩
theorem bitsN_len {s : Nat} : (bitsN s).length = cnt s := rfl
theorem exists_max {f : Nat → Nat} : ∀ {l : List Nat}, l ≠ [] → ∃ g, g ∈ l ∧ ∀ x ∈ l, f x ≤ f g
  | [a], _ => ⟨a, by simp, by simp⟩
  | a :: b :: l, _ => by
    obtain ⟨g, h1, h2⟩ := exists_max (f := f) (l := b :: l) (by simp)
    rcases Nat.le_total (f a) (f g) with h | h
    · exact ⟨g, List.mem_cons_of_mem _ h1, fun x hx => by
        rcases List.mem_cons.1 hx with rfl | hx
        · exact h
        · exact h2 x hx⟩
    · exact ⟨a, by simp, fun x hx => by
        rcases List.mem_cons.1 hx with rfl | hx
        · exact Nat.le_refl _
        · exact Nat.le_trans (h2 x hx) h⟩
theorem zero_bit {q : Nat} : Nat.testBit 0 q = false := Nat.zero_testBit q
theorem cnt_zero : cnt 0 = 0 := by decide
section
variable {room : Int} {r : List Nat} {s p g : Nat}
theorem set_clr (hs : s < 64) (hp : p < 6) (hg : g < 6) (hne : p ≠ g) : setB (clrB s g) p = clrB (setB s p) g := by
  refine ext6 (set_lt (clr_lt hs hg) hp) (clr_lt (set_lt hs hp) hg) fun x hx => ?_
  rw [set_bit (clr_lt hs hg) hp hx, clr_bit hs hg hx, clr_bit (set_lt hs hp) hg hx, set_bit hs hp hx]
  by_cases ex : x = p
  · subst ex; simp [hne]
  · simp [ex]
theorem one_sub (hs : s < 64) (hp : p < 6) : sub (setB 0 p) (setB s p) := fun q hq a => by
  rw [set_bit (by decide) hp hq, zero_bit, Bool.false_or, decide_eq_true_eq] at a
  rw [set_bit hs hp hq, a]; simp
theorem cnt_swap (hs : s < 64) (hp : p < 6) (hg : g < 6) (hb : s.testBit g = true) (hpb : s.testBit p = false) : cnt (setB (clrB s g) p) = cnt s := by
  have := cnt_clr hs hg hb
  rw [cnt_set (clr_lt hs hg) hp, clr_bit hs hg hp, hpb]
  simp [nb]; omega
theorem swap_ge (hr : ∀ q ∈ r, q < 6) (hs : s < 64) (hp : p < 6) (hg : g < 6) (hb : s.testBit g = true) (hpb : s.testBit p = false) (hc : (cnt s : Int) = room) :
    max (bnd room r (setB s p)) (bnd room r (setB 0 p) - (room - 1)) ≤ bnd room r (setB (clrB s g) p) := by
  have h1 := (bnd_sub (k := room) r hr (set_lt (clr_lt hs hg) hp) (set_lt hs hp) (fun q hq a => by
    rw [set_bit (clr_lt hs hg) hp hq, clr_bit hs hg hq] at a
    rw [set_bit hs hp hq]
    simp only [Bool.or_eq_true, Bool.and_eq_true, decide_eq_true_eq] at a ⊢
    exact a.imp (·.1) id)).1
  have h2 := (bnd_sub (k := room) r hr (set_lt (by decide) hp) (set_lt (clr_lt hs hg) hp) (one_sub (clr_lt hs hg) hp)).2
  rw [cnt_swap hs hp hg hb hpb, cnt_set (by decide) hp, zero_bit, cnt_zero] at h2
  simp [nb] at h2
  omega
theorem swap_le (hr : ∀ q ∈ r, q < 6) (hs : s < 64) (hp : p < 6) (hg : g < 6) (hb : s.testBit g = true) (hpb : s.testBit p = false) (hc : (cnt s : Int) = room) (hf : ∀ x ∈ bitsN s, r.idxOf x ≤ r.idxOf g) :
    bnd room r (setB (clrB s g) p) ≤ max (bnd room r (setB s p)) (bnd room r (setB 0 p) - (room - 1)) := by
  have hne : p ≠ g := fun e => by rw [e, hb] at hpb; cases hpb
  have := far_bnd (k := room) r hr (S := setB s p) (A := setB 0 p) (g := g) (set_lt hs hp) (set_lt (by decide) hp) (one_sub hs hp) hg (by rw [set_bit hs hp hg, hb]; rfl)
    (by rw [set_bit (by decide) hp hg, zero_bit]; simp [Ne.symm hne]) (fun x hx a b => by
      rw [set_bit (by decide) hp hx, zero_bit, Bool.false_or, decide_eq_false_iff_not] at b
      rw [set_bit hs hp hx] at a
      simp [b] at a
      exact hf x ((bitsN_mem hs).2 ⟨hx, a⟩))
  rw [cnt_set hs hp, cnt_set (by decide) hp, zero_bit, hpb, cnt_zero] at this
  rw [set_clr hs hp hg hne]
  simp [nb] at this
  omega
end
theorem need_bnd {room : Int} (h1 : 1 ≤ room) : ∀ (l : List Nat), (∀ p ∈ l, p < 6) → ∀ {s : Nat}, s < 64 → (cnt s : Int) ≤ room → (need room l s : Int) = bnd room l s
  | [], _, s, hs, hc => rfl
  | p :: r, hl, s, hs, hc => by
    have hp := hl p (by simp)
    have hr : ∀ q ∈ r, q < 6 := fun q hq => hl q (by simp [hq])
    simp only [need, bnd]
    have one := (bnd_sub (k := room) r hr (set_lt (by decide) hp) (set_lt hs hp) (one_sub hs hp)).2
    rw [cnt_set (by decide) hp, zero_bit, cnt_zero, cnt_set hs hp] at one
    by_cases hb : s.testBit p = true
    · have e : setB s p = s := by unfold setB; rw [if_pos hb]
      rw [if_pos hb, need_bnd h1 r hr hs hc, e]
      rw [e, hb] at one
      rw [hb]
      simp [nb] at *
      omega
    · have hb' : s.testBit p = false := by simpa using hb
      rw [if_neg hb]
      by_cases hl2 : (cnt s : Int) < room
      · rw [if_pos hl2]
        have := need_bnd h1 r hr (set_lt hs hp) (by rw [cnt_set hs hp, hb']; simp [nb]; omega)
        rw [hb'] at one ⊢
        simp [nb] at *
        omega
      · rw [if_neg hl2]
        have hc' : (cnt s : Int) = room := by omega
        have key : ∀ g ∈ bitsN s, (need room r (setB (clrB s g) p) : Int) = bnd room r (setB (clrB s g) p) := fun g hg => by
          obtain ⟨g6, gb⟩ := (bitsN_mem hs).1 hg
          exact need_bnd h1 r hr (set_lt (clr_lt hs g6) hp) (by rw [cnt_swap hs hp g6 gb hb']; omega)
        have hne : bitsN s ≠ [] := fun e => by
          have := bitsN_len (s := s)
          rw [e] at this; simp at this; omega
        obtain ⟨g, hg, hmax⟩ := exists_max (f := fun x => r.idxOf x) hne
        obtain ⟨g6, gb⟩ := (bitsN_mem hs).1 hg
        have u := swap_le hr hs hp g6 gb hb' hc' hmax
        have hmem := minL_mem (l := (bitsN s).map fun g => need room r (setB (clrB s g) p)) (by simpa using hne)
        have hle := minL_le (l := (bitsN s).map fun g => need room r (setB (clrB s g) p)) (List.mem_map_of_mem hg)
        obtain ⟨g', hg', e'⟩ := List.mem_map.1 hmem
        obtain ⟨g6', gb'⟩ := (bitsN_mem hs).1 hg'
        have v := swap_ge hr hs hp g6' gb' hb' hc'
        have k1 := key g hg
        have k2 := key g' hg'
        rw [hb']
        simp only [nb]
        rw [← e'] at hle ⊢
        simp
        omega
end Go.Proofs.YtcdhajbhpnbdkaaDoor

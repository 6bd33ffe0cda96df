/-
  The greatest bound of all sets of times is the fewest settings.
  Conditions: none; lemmas.
-/
import Derived.Test.YtcdhajbhpnbdkaaDoorBoundsSet
set_option linter.unusedSimpArgs false
set_option linter.unusedVariables false
namespace Go.Proofs.YtcdhajbhpnbdkaaDoor
open Go.Abs Go.Pur
set_option maxRecDepth 100000
def zipF (s : Nat) : List Int → Nat → List (Nat × Bool)
  | [], _ => []
  | p :: r, i => (p.toNat, s.testBit i) :: zipF s r (i + 1)
theorem zipF_len {s : Nat} : ∀ {l : List Int} {i : Nat}, (zipF s l i).length = l.length
  | [], _ => rfl
  | p :: r, i => by simp only [zipF, List.length_cons]; rw [zipF_len]
theorem zipF_fst {s : Nat} : ∀ {l : List Int} {i : Nat}, (zipF s l i).map (·.1) = l.map Int.toNat
  | [], _ => rfl
  | p :: r, i => by simp only [zipF, List.map_cons]; rw [zipF_fst]
section
variable {pages : List Int} {s : Nat}
theorem fresh_zip {p : Int} (hp : 0 ≤ p) (hpg : ∀ q ∈ pages, 0 ≤ q) : ∀ (k j : Nat), j + k = pages.length → (fresh p.toNat (zipF s (pages.drop j) j) = true ↔ nxt pages p j < pages.length ∧ ∀ t, j ≤ t → t < nxt pages p j → s.testBit t = false)
  | 0, j, hk => by
    rw [List.drop_of_length_le (by omega), nxt_end (by omega)]
    simp [zipF, fresh]; omega
  | k + 1, j, hk => by
    have hj : j < pages.length := by omega
    have ih := fresh_zip hp hpg k (j + 1) (by omega)
    have hq := hpg _ (List.getElem_mem hj)
    rw [List.drop_eq_getElem_cons hj, nxt_step hj]
    simp only [zipF, fresh]
    by_cases e : pages[j] = p
    · rw [if_pos (by rw [e]), if_pos e]
      simp only [true_iff]
      exact ⟨hj, fun t h1 h2 => by omega⟩
    · rw [if_neg (by omega), if_neg e]
      have hle : j + 1 ≤ nxt pages p (j + 1) := by unfold nxt; omega
      cases hb : s.testBit j with
      | true =>
        simp only [if_true, Bool.false_eq_true, false_iff]
        rintro ⟨_, h⟩
        have := h j (Nat.le_refl _) (by omega)
        rw [hb] at this; cases this
      | false =>
        simp only [Bool.false_eq_true, if_false]
        rw [ih]
        refine and_congr_right fun _ => ⟨fun h t h1 h2 => ?_, fun h t h1 h2 => h t (by omega) h2⟩
        by_cases e2 : t = j
        · subst e2; exact hb
        · exact h t (by omega) h2
theorem unhit_zip (hpg : ∀ q ∈ pages, 0 ≤ q) (hn : pages.length ≤ 12) : ∀ (k i : Nat), i + k = pages.length → unhit (zipF s (pages.drop i) i) = (spG pages k i).countP (bare (bitsL s))
  | 0, i, hk => by
    rw [List.drop_of_length_le (by omega)]
    rfl
  | k + 1, i, hk => by
    have hi : i < pages.length := by omega
    have ih := unhit_zip hpg hn k (i + 1) (by omega)
    have hf := @fresh_zip pages s pages[i] (hpg _ (List.getElem_mem hi)) hpg k (i + 1) (by omega)
    rw [List.drop_eq_getElem_cons hi]
    simp only [zipF, unhit, spG, getD_at hi]
    rw [ih]
    by_cases hx : nxt pages pages[i] (i + 1) < pages.length
    · rw [if_pos hx, List.countP_cons]
      have : fresh pages[i].toNat (zipF s (pages.drop (i + 1)) (i + 1)) = bare (bitsL s) ((i : Int), (nxt pages pages[i] (i + 1) : Int)) := by
        rw [Bool.eq_iff_iff, hf]
        unfold bare
        rw [Bool.not_eq_true', List.any_eq_false]
        constructor
        · rintro ⟨_, h⟩ t ht
          obtain ⟨n, rfl, _, hb⟩ := bitsL_mem.1 ht
          simp only [Bool.and_eq_true, decide_eq_true_eq]
          rintro ⟨h1, h2⟩
          have := h n (by omega) (by omega)
          rw [hb] at this; cases this
        · intro h
          refine ⟨hx, fun t h1 h2 => ?_⟩
          cases hb : s.testBit t with
          | false => rfl
          | true =>
            have := h (t : Int) (bitsL_mem.2 ⟨t, rfl, by omega, hb⟩)
            simp only [Bool.and_eq_true, decide_eq_true_eq] at this
            omega
      rw [this]
      cases bare (bitsL s) ((i : Int), (nxt pages pages[i] (i + 1) : Int)) <;> simp <;> omega
    · rw [if_neg hx]
      have : fresh pages[i].toNat (zipF s (pages.drop (i + 1)) (i + 1)) = false := by
        cases h : fresh pages[i].toNat (zipF s (pages.drop (i + 1)) (i + 1)) with
        | false => rfl
        | true => exact absurd (hf.1 h).1 hx
      rw [this]
      simp
theorem flags_zip : ∀ (l : List Int) (i : Nat), flags (zipF s l i) = ((List.range' i l.length).filter fun t => s.testBit t).length
  | [], i => rfl
  | p :: r, i => by
    simp only [zipF, flags, List.length_cons, List.range'_succ]
    rw [flags_zip r (i + 1)]
    cases h : s.testBit i with
    | true => rw [List.filter_cons_of_pos h, List.length_cons]; exact Nat.add_comm _ _
    | false => rw [List.filter_cons_of_neg (by simp [h])]; simp
theorem cnt_range {n : Nat} (hn : n ≤ 12) (hs : s < 2 ^ n) : ((List.range' 0 n).filter fun t => s.testBit t).length = cnt s := by
  unfold cnt
  rw [List.range_eq_range', show 12 = n + (12 - n) by omega, ← List.range'_append_1, List.filter_append]
  have : (List.range' (0 + n) (12 - n)).filter (fun t => s.testBit t) = [] := by
    rw [List.filter_eq_nil_iff]
    intro t ht
    rw [List.mem_range'_1] at ht
    have : 2 ^ n ≤ 2 ^ t := Nat.pow_le_pow_right (by decide) (by omega)
    rw [Nat.testBit_lt_two_pow (by omega)]
    decide
  rw [this, List.append_nil]
theorem bndT_eq {room : Int} (hpg : ∀ q ∈ pages, 0 ≤ q) (hn : pages.length ≤ 12) (hs : s < 2 ^ pages.length) : bndT room pages (bitsL s) = max 0 (boundF room (zipF s pages 0)) := by
  unfold bndT boundF
  have h1 := @unhit_zip pages s hpg hn pages.length 0 (by omega)
  rw [List.drop_zero] at h1
  rw [h1, zipF_len, flags_zip, cnt_range hn hs, bitsL_len]
theorem rem6_zero : rem6 pages 0 = pages.map Int.toNat := by unfold rem6; rw [List.drop_zero]
theorem zip_ok (hpg : ∀ q ∈ pages, 0 ≤ q ∧ q ≤ 5) {i : Nat} : ∀ x ∈ zipF s pages i, x.1 < 6 := by
  intro x hx
  have : x.1 ∈ (zipF s pages i).map (·.1) := List.mem_map_of_mem hx
  rw [zipF_fst] at this
  obtain ⟨p, hp, e⟩ := List.mem_map.1 this
  have := hpg p hp
  omega
theorem bndT_le {room : Int} (hr1 : 1 ≤ room) (hpg : ∀ q ∈ pages, 0 ≤ q ∧ q ≤ 5) (hn : pages.length ≤ 12) (hs : s < 2 ^ pages.length) : bndT room pages (bitsL s) ≤ need room (rem6 pages 0) 0 := by
  rw [bndT_eq (fun q hq => (hpg q hq).1) hn hs]
  have := @boundF_le room (zipF s pages 0) hr1 (zip_ok hpg)
  rw [zipF_fst] at this
  rw [rem6_zero]
  omega
theorem bits_of : ∀ (bs : List Bool), ∃ s, s < 2 ^ bs.length ∧ ∀ t, t < bs.length → s.testBit t = bs.getD t false
  | [] => ⟨0, by simp, fun t h => by simp at h⟩
  | b :: bs => by
    obtain ⟨s, h1, h2⟩ := bits_of bs
    refine ⟨2 * s + b.toNat, ?_, fun t ht => ?_⟩
    · rw [List.length_cons, Nat.pow_succ]
      cases b <;> simp <;> omega
    · cases t with
      | zero =>
        cases b <;> simp [Nat.testBit_zero] <;> omega
      | succ t =>
        rw [Nat.testBit_succ, show (2 * s + b.toNat) / 2 = s by cases b <;> simp <;> omega, h2 t (by simpa using ht)]
        simp
theorem zip_bits : ∀ (l : List Int) (bs : List Bool) (i : Nat), bs.length = l.length → (∀ t, t < bs.length → s.testBit (i + t) = bs.getD t false) → zipF s l i = (l.map Int.toNat).zip bs
  | [], [], i, _, _ => rfl
  | p :: r, b :: bs, i, h, hb => by
    simp only [zipF, List.map_cons, List.zip_cons_cons]
    have h0 := hb 0 (by simp)
    simp at h0
    rw [h0, zip_bits r bs (i + 1) (by simpa using h) (fun t ht => by
      have := hb (t + 1) (by simpa using ht)
      rw [show i + 1 + t = i + (t + 1) by omega, this]
      simp)]
theorem bndT_max {room : Int} (hr1 : 1 ≤ room) (hpg : ∀ q ∈ pages, 0 ≤ q ∧ q ≤ 5) (hn : pages.length ≤ 12) : ∃ s, s < 2 ^ pages.length ∧ bndT room pages (bitsL s) = need room (rem6 pages 0) 0 := by
  have hp6 : ∀ p ∈ pages.map Int.toNat, p < 6 := fun p hp => by
    obtain ⟨q, hq, rfl⟩ := List.mem_map.1 hp
    have := hpg q hq
    omega
  obtain ⟨bs, hl, e⟩ := @boundF_max room (pages.map Int.toNat) hr1 hp6
  obtain ⟨s, h1, h2⟩ := bits_of bs
  rw [List.length_map] at hl
  rw [hl] at h1
  refine ⟨s, h1, ?_⟩
  rw [bndT_eq (fun q hq => (hpg q hq).1) hn h1, zip_bits pages bs 0 hl (fun t ht => by rw [Nat.zero_add]; exact h2 t ht), e, rem6_zero]
  omega
end
end Go.Proofs.YtcdhajbhpnbdkaaDoor

/-
  A floor's bits, and the list of the reference, stand for the same set: both plays answer alike.
  Conditions: none; lemmas.
-/
import Derived.Test.YtcdhajbhpnbdkaaDoorRuns
set_option linter.unusedSimpArgs false
set_option linter.unusedVariables false
namespace Go.Proofs.YtcdhajbhpnbdkaaDoor
open Go.Abs Go.Pur
theorem wo_mem {l : List Int} {x y : Int} : y ∈ wo l x ↔ y ∈ l ∧ y ≠ x := by
  unfold wo
  simp
structure Same (now : List Int) (s : Nat) : Prop where
  lt : s < 64
  nd : now.Nodup
  mem : ∀ p : Int, p ∈ now ↔ 0 ≤ p ∧ p < 6 ∧ s.testBit p.toNat = true
theorem six_cases {p : Nat} (h : p < 6) : p = 0 ∨ p = 1 ∨ p = 2 ∨ p = 3 ∨ p = 4 ∨ p = 5 := by omega
theorem bits6 {s : Nat} (h : s < 64) : bitsL s = orderOf (bitsL s) ∧ (bitsL s).length = cnt s ∧ (bitsL s).Nodup ∧ ∀ p : Nat, p < 6 → ((p : Int) ∈ bitsL s ↔ s.testBit p = true) := by
  have : (List.range 64).all (fun s => decide (bitsL s = orderOf (bitsL s) ∧ (bitsL s).length = cnt s ∧ (bitsL s).Nodup) && (List.range 6).all fun p => decide ((p : Int) ∈ bitsL s) == s.testBit p) = true := by kernel_rfl
  rw [List.all_eq_true] at this
  have := this s (List.mem_range.2 h)
  simp only [Bool.and_eq_true, decide_eq_true_eq] at this
  obtain ⟨⟨a, b, c⟩, d⟩ := this
  refine ⟨a, b, c, fun p hp => ?_⟩
  rw [List.all_eq_true] at d
  have := d p (List.mem_range.2 hp)
  simp only [beq_iff_eq] at this
  rw [← this]; simp
theorem bitsL_range {s : Nat} (h : s < 64) {p : Int} (hp : p ∈ bitsL s) : 0 ≤ p ∧ p < 6 := by
  rw [(bits6 h).1] at hp
  unfold orderOf six at hp
  simp at hp
  omega
theorem Same.memL {now : List Int} {s : Nat} (h : Same now s) (p : Int) : p ∈ now ↔ p ∈ bitsL s := by
  rw [h.mem]
  constructor
  · rintro ⟨h1, h2, h3⟩
    obtain ⟨q, rfl⟩ := Int.eq_ofNat_of_zero_le h1
    exact ((bits6 h.lt).2.2.2 q (by omega)).2 (by simpa using h3)
  · intro hp
    obtain ⟨h1, h2⟩ := bitsL_range h.lt hp
    obtain ⟨q, rfl⟩ := Int.eq_ofNat_of_zero_le h1
    exact ⟨h1, h2, by simpa using ((bits6 h.lt).2.2.2 q (by omega)).1 hp⟩
theorem Same.length {now : List Int} {s : Nat} (h : Same now s) : now.length = cnt s := by
  rw [← (bits6 h.lt).2.1]
  exact ((List.perm_ext_iff_of_nodup h.nd (bits6 h.lt).2.2.1).2 h.memL).length_eq
theorem Same.order {now : List Int} {s : Nat} (h : Same now s) : orderOf now = bitsL s := by
  rw [(bits6 h.lt).1]
  unfold orderOf
  refine List.filter_congr fun x _ => ?_
  simp [h.memL x]
theorem Same.nil : Same [] 0 := ⟨by decide, List.nodup_nil, fun p => by simp⟩
theorem wo_id {l : List Int} {x : Int} (h : x ∉ l) : wo l x = l := by
  unfold wo
  rw [List.filter_eq_self]
  intro a ha
  simp
  rintro rfl
  exact h ha
theorem Same.with {now : List Int} {s p : Nat} {g : Int} (h : Same now s) (hp : p < 6) (hg : g = -1 ∨ 0 ≤ g ∧ g < 6) : Same (nowOf now p g) (withB s p g) := by
  have h1 : Same (wo now g) (if 0 ≤ g then clrB s g.toNat else s) := by
    rcases hg with rfl | ⟨g0, g6⟩
    · rw [if_neg (by omega), wo_id]
      · exact h
      · rw [h.mem]; omega
    · rw [if_pos g0]
      obtain ⟨g, rfl⟩ := Int.eq_ofNat_of_zero_le g0
      obtain ⟨_, _, _, a, _, f⟩ := bit_at h.lt (show g < 6 by omega)
      refine ⟨by simpa using a, h.nd.filter _, fun q => ?_⟩
      rw [wo_mem, h.mem]
      constructor
      · rintro ⟨⟨a1, a2, a3⟩, a4⟩
        refine ⟨a1, a2, ?_⟩
        have := (f q.toNat (by omega)).1
        simp only [Int.toNat_natCast]
        rw [this, a3]
        simp; omega
      · rintro ⟨a1, a2, a3⟩
        have := (f q.toNat (by omega)).1
        simp only [Int.toNat_natCast] at a3
        rw [this] at a3
        simp at a3
        exact ⟨⟨a1, a2, a3.1⟩, by omega⟩
  unfold nowOf withB
  generalize (if 0 ≤ g then clrB s g.toNat else s) = s1 at h1
  generalize wo now g = n1 at h1
  obtain ⟨_, _, _, _, a, f⟩ := bit_at h1.lt hp
  by_cases hm : (p : Int) ∈ n1
  · rw [if_pos hm]
    have hb := ((h1.mem p).1 hm).2.2
    simp at hb
    unfold setB
    rw [if_pos hb]
    exact h1
  · rw [if_neg hm, wo_id hm]
    refine ⟨a, ?_, fun q => ?_⟩
    · rw [List.nodup_append]
      refine ⟨h1.nd, by simp, fun x hx y hy => ?_⟩
      simp at hy
      subst hy
      rintro rfl
      exact hm hx
    · rw [List.mem_append, h1.mem]
      constructor
      · rintro (⟨a1, a2, a3⟩ | a4)
        · refine ⟨a1, a2, ?_⟩
          rw [(f q.toNat (by omega)).2, a3]; rfl
        · simp at a4
          subst a4
          refine ⟨by omega, by omega, ?_⟩
          rw [(f _ (by omega)).2]; simp
      · rintro ⟨a1, a2, a3⟩
        rw [(f q.toNat (by omega)).2] at a3
        simp at a3
        rcases a3 with a3 | a3
        · exact Or.inl ⟨a1, a2, a3⟩
        · right; simp; omega
theorem cnt_with {room : Int} {s p : Nat} {g : Int} (hr1 : 1 ≤ room) (hr2 : room ≤ 5) (hs : s < 64) (hp : p < 6) (he : errF room s p g = 0) (hc : (cnt s : Int) ≤ room) : (cnt (withB s p g) : Int) ≤ room := by
  have hg : g = -1 ∨ 0 ≤ g ∧ g < 6 := by
    unfold errF at he
    split at he
    · split at he
      · rename_i h2; exact Or.inr ⟨h2.1, h2.2.1⟩
      · omega
    · split at he
      · exact Or.inl (by assumption)
      · omega
  have : (List.range 64).all (fun s => (List.range 6).all fun p => [(-1 : Int), 0, 1, 2, 3, 4, 5].all fun g => [(1 : Int), 2, 3, 4, 5].all fun room => !decide (errF room s p g = 0) || !decide ((cnt s : Int) ≤ room) || decide ((cnt (withB s p g) : Int) ≤ room)) = true := by kernel_rfl
  rw [List.all_eq_true] at this
  have := this s (List.mem_range.2 hs)
  rw [List.all_eq_true] at this
  have := this p (List.mem_range.2 hp)
  rw [List.all_eq_true] at this
  have := this g (by simp; omega)
  rw [List.all_eq_true] at this
  have := this room (by simp; omega)
  simpa [he, hc] using this
theorem err_eq {room : Int} {now : List Int} {s p : Nat} {g : Int} (h : Same now s) (hp : p < 6) (hl : (now.length : Int) ≤ room) : errOf room now p g = errF room s p g := by
  have e1 : ((p : Int) ∉ now ∧ (now.length : Int) = room) ↔ fullB s p room = true := by
    unfold fullB
    rw [h.mem, h.length] at *
    simp
    constructor
    · rintro ⟨a, b⟩
      exact ⟨a (by omega), by omega⟩
    · rintro ⟨a, b⟩
      exact ⟨fun _ => a, by omega⟩
  unfold errOf errF
  by_cases hf : fullB s p room = true
  · rw [if_pos hf, if_pos (e1.2 hf)]
    by_cases hg : g ∈ now
    · rw [if_pos hg, if_pos ((h.mem g).1 hg)]
    · rw [if_neg hg, if_neg (fun x => hg ((h.mem g).2 x))]
  · rw [if_neg hf, if_neg (fun x => hf (e1.1 x))]
theorem same_iff {room : Int} {now : List Int} {s p : Nat} {g : Int} (h : Same now s) (hp : p < 6) (he : errF room s p g = 0) : withB s p g = s ↔ (p : Int) ∈ wo now g := by
  unfold errF at he
  split at he
  · rename_i hf
    split at he
    · rename_i hg
      have hw := h.with hp (Or.inr ⟨hg.1, hg.2.1⟩)
      have hb : s.testBit p = false := by unfold fullB at hf; simp at hf; exact hf.1
      have hn : (p : Int) ∉ now := fun x => by
        have := ((h.mem _).1 x).2.2
        simp [hb] at this
      constructor
      · intro e
        have : (p : Int) ∈ nowOf now p g := by
          unfold nowOf
          split
          · assumption
          · simp
        have := ((hw.mem _).1 this).2.2
        rw [e] at this
        simp [hb] at this
      · intro hm
        exact absurd (wo_mem.1 hm).1 hn
    · omega
  · split at he
    · rename_i hg
      subst hg
      rw [wo_id (by rw [h.mem]; omega), h.mem]
      unfold withB
      rw [if_neg (by omega)]
      unfold setB
      constructor
      · intro e
        refine ⟨by omega, by omega, ?_⟩
        simp only [Int.toNat_natCast]
        split at e
        · assumption
        · have := Nat.two_pow_pos p
          omega
      · rintro ⟨_, _, hb⟩
        simp only [Int.toNat_natCast] at hb
        rw [if_pos hb]
    · omega
theorem play_flo {room : Int} (hr1 : 1 ≤ room) (hr2 : room ≤ 5) : ∀ {l : List (Int × Int)} {s : Nat} {set : Int} {now : List Int} {out : List (List Int)} {outF : List Nat}, (∀ x ∈ l, 0 ≤ x.1 ∧ x.1 ≤ 5) → Same now s → (now.length : Int) ≤ room → out.map orderOf = outF.map bitsL →
    (play room l 0 now set out).2.2 = (flo room l s set outF).2.2 ∧ ((flo room l s set outF).2.2 = 0 → (play room l 0 now set out).2.1 = (flo room l s set outF).2.1 ∧ (play room l 0 now set out).1.map orderOf = (flo room l s set outF).1.map bitsL) ∧ ((flo room l s set outF).2.2 ≠ 0 → (flo room l s set outF).1 = [] ∧ (flo room l s set outF).2.1 = 0)
  | [], s, set, now, out, outF, _, _, _, ho => by simp [play, flo, ho]
  | (p, g) :: r, s, set, now, out, outF, hl, h, hn, ho => by
    obtain ⟨hp0, hp5⟩ := hl (p, g) (by simp)
    obtain ⟨p, rfl⟩ := Int.eq_ofNat_of_zero_le hp0
    have hp : p < 6 := by simp at hp5; omega
    simp only [play, flo, Int.toNat_natCast, if_pos rfl]
    have he := err_eq (g := g) h hp hn
    by_cases h0 : errF room s p g = 0
    · rw [if_pos h0]
      rw [he, h0]
      have hg : g = -1 ∨ 0 ≤ g ∧ g < 6 := by
        unfold errF at h0
        split at h0
        · split at h0
          · rename_i h2; exact Or.inr ⟨h2.1, h2.2.1⟩
          · omega
        · split at h0
          · exact Or.inl (by assumption)
          · omega
      have hw := h.with hp hg
      have hset : (if (p : Int) ∈ wo now g then set else set + 1) = (if withB s p g = s then set else set + 1) := by
        by_cases hc : withB s p g = s
        · rw [if_pos hc, if_pos ((same_iff h hp h0).1 hc)]
        · rw [if_neg hc, if_neg (fun x => hc ((same_iff h hp h0).2 x))]
      rw [hset]
      refine play_flo hr1 hr2 (fun x hx => hl x (by simp [hx])) hw ?_ ?_
      · rw [hw.length]
        exact cnt_with hr1 hr2 h.lt hp h0 (by rw [← h.length]; exact hn)
      · simp [ho, hw.order]
    · rw [if_neg h0]
      rw [play_stop (by rw [he]; exact h0)]
      simp [he, h0]
theorem orderOf_nil : orderOf [] = [] := by decide
theorem played_floors {room : Int} {pages plan : List Int} : (floorsOf room pages plan).2.1 = (playedOf room pages plan).2.1 ∧ (floorsOf room pages plan).2.2 = (playedOf room pages plan).2.2 ∧ (floorsOf room pages plan).1.map bitsL = (playedOf room pages plan).1.map orderOf := by
  unfold floorsOf playedOf played0
  by_cases h1 : chk room pages = 0
  · obtain ⟨hr1, hr2, _, hp⟩ := chk_ok h1
    rw [if_pos h1, if_pos h1]
    by_cases h2 : plan.length = pages.length
    · rw [if_pos h2, if_pos h2]
      obtain ⟨a, b, c⟩ := @play_flo room hr1 hr2 (pages.zip plan) 0 0 [] [] [] (fun x hx => hp _ (List.of_mem_zip hx).1) Same.nil (by simp; omega) rfl
      by_cases h3 : (play room (pages.zip plan) 0 [] 0 []).2.2 = 0
      · rw [if_pos h3]
        obtain ⟨b1, b2⟩ := b (a ▸ h3)
        exact ⟨b1.symm, a.symm, b2.symm⟩
      · rw [if_neg h3]
        obtain ⟨b1, b2⟩ := c (a ▸ h3)
        exact ⟨b2, a.symm, by rw [b1]; rfl⟩
    · rw [if_neg h2, if_neg h2]; simp
  · rw [if_neg h1, if_neg h1]; simp [h1]
end Go.Proofs.YtcdhajbhpnbdkaaDoor

/-
  The plans of the three rules: the floor's bits with their times, and the reference's list, lead to the same plans.
  Conditions: none; lemmas.
-/
import Derived.Test.YtcdhajbhpnbdkaaDoorRunsLaw
import Derived.Test.YtcdhajbhpnbdkaaDoorRefRules
import Derived.Test.YtcdhajbhpnbdkaaDoorRules
set_option linter.unusedSimpArgs false
set_option linter.unusedVariables false
namespace Go.Proofs.YtcdhajbhpnbdkaaDoor
open Go.Abs Go.Pur
theorem pickN_max {num : Int → Int} {l : List Int} (h : ∀ p ∈ l, 0 ≤ p) : ∀ x ∈ l, num x ≤ num (pickN num l) := by
  have key : ∀ (l : List Int) (g : Int), (∀ p ∈ l, 0 ≤ p) → 0 ≤ g → num g ≤ num (l.foldl (fun g p => if g < 0 ∨ num g < num p then p else g) g) ∧ ∀ x ∈ l, num x ≤ num (l.foldl (fun g p => if g < 0 ∨ num g < num p then p else g) g) := by
    intro l
    induction l with
    | nil => intro g _ _; exact ⟨Int.le_refl _, by simp⟩
    | cons y l ih =>
      intro g hl hg
      simp only [List.foldl_cons]
      by_cases hc : num g < num y
      · rw [if_pos (Or.inr hc)]
        obtain ⟨a, b⟩ := ih y (fun p hp => hl p (by simp [hp])) (hl y (by simp))
        refine ⟨by omega, fun x hx => ?_⟩
        rcases List.mem_cons.1 hx with rfl | hx
        · exact a
        · exact b x hx
      · rw [if_neg (by omega)]
        obtain ⟨a, b⟩ := ih g (fun p hp => hl p (by simp [hp])) hg
        refine ⟨a, fun x hx => ?_⟩
        rcases List.mem_cons.1 hx with rfl | hx
        · omega
        · exact b x hx
  cases l with
  | nil => simp
  | cons y l =>
    unfold pickN
    simp only [List.foldl_cons]
    rw [if_pos (Or.inl (by decide))]
    obtain ⟨a, b⟩ := key l y (fun p hp => h p (by simp [hp])) (h y (by simp))
    intro x hx
    rcases List.mem_cons.1 hx with rfl | hx
    · exact a
    · exact b x hx
theorem bitsL_nonneg {s : Nat} (h : s < 64) : ∀ p ∈ bitsL s, 0 ≤ p := fun p hp => (bitsL_range h hp).1
theorem pick_head {num : Int → Int} {now : List Int} {s : Nat} {x : Int} {r : List Int} (h : Same now s) (he : now = x :: r) (hp : now.Pairwise fun a b => num b < num a) : pickN num (bitsL s) = x := by
  have hb := bitsL_nonneg h.lt
  have hx : x ∈ bitsL s := (h.memL x).1 (by rw [he]; simp)
  rcases pickN_mem (num := num) hb with ⟨_, e⟩ | hm
  · rw [e] at hx; cases hx
  · have hmax := pickN_max (num := num) hb x hx
    have hm2 := (h.memL _).2 hm
    rw [he] at hm2 hp
    rcases List.mem_cons.1 hm2 with e | hm3
    · exact e
    · have := (List.pairwise_cons.1 hp).1 _ hm3
      omega
theorem pick_congr {num num' : Int → Int} : ∀ {l : List Int}, (∀ a b : Int, num a < num b ↔ num' a < num' b) → pickN num l = pickN num' l := by
  intro l h
  unfold pickN
  congr 1
  funext g p
  simp [h g p]
theorem pick_filter {num : Int → Int} {f : Int → Bool} {l : List Int} : pickN num (l.filter f) = l.foldl (fun g p => if f p = true ∧ (g < 0 ∨ num g < num p) then p else g) (-1) := by
  unfold pickN
  generalize (-1 : Int) = g
  induction l generalizing g with
  | nil => rfl
  | cons x l ih =>
    simp only [List.foldl_cons]
    by_cases hx : f x = true
    · rw [List.filter_cons_of_pos hx, List.foldl_cons, ih]
      simp [hx]
    · rw [List.filter_cons_of_neg hx, ih]
      simp [hx]
theorem Same.congr {now now' : List Int} {s : Nat} (h : Same now s) (hn : now'.Nodup) (hm : ∀ p, p ∈ now' ↔ p ∈ now) : Same now' s := ⟨h.lt, hn, fun p => (hm p).trans (h.mem p)⟩
theorem wo_nodup {l : List Int} {x : Int} (h : l.Nodup) : (wo l x).Nodup := h.filter _
theorem put_nodup {l : List Int} {x : Int} (h : l.Nodup) : (wo l x ++ [x]).Nodup := by
  rw [List.nodup_append]
  refine ⟨wo_nodup h, by simp, fun a ha b hb => ?_⟩
  simp at hb
  subst hb
  exact (wo_mem.1 ha).2
theorem nowOf_nodup {l : List Int} {p g : Int} (h : l.Nodup) : (nowOf l p g).Nodup := by
  unfold nowOf
  split
  · exact wo_nodup h
  · exact put_nodup (wo_nodup h)
theorem full_iff {room : Int} {now : List Int} {s p : Nat} (h : Same now s) (hp : p < 6) (hl : (now.length : Int) ≤ room) : ((p : Int) ∉ now ∧ (now.length : Int) = room) ↔ fullB s p room = true := by
  unfold fullB
  rw [h.mem, h.length] at *
  simp
  constructor
  · rintro ⟨a, b⟩
    exact ⟨a (by omega), by omega⟩
  · rintro ⟨a, b⟩
    exact ⟨fun _ => a, by omega⟩
theorem Same.withR {recent : Bool} {now : List Int} {s p : Nat} {g : Int} (h : Same now s) (hp : p < 6) (hg : g = -1 ∨ 0 ≤ g ∧ g < 6) : Same (nowR recent now p g) (withB s p g) := by
  have h1 := h.with hp hg
  refine h1.congr ?_ (fun q => ?_)
  · unfold nowR
    split
    · exact put_nodup (wo_nodup h.nd)
    · exact wo_nodup h.nd
  · unfold nowR nowOf
    by_cases hm : (p : Int) ∈ wo now g
    · rw [if_pos hm]
      by_cases hr : recent = true
      · rw [if_pos (Or.inl hr), List.mem_append, wo_mem]
        simp
        constructor
        · rintro (h | rfl)
          · exact h.1
          · exact hm
        · intro h
          by_cases e : q = p
          · exact Or.inr e
          · exact Or.inl ⟨h, e⟩
      · rw [if_neg (by simp [hr, hm])]
    · rw [if_neg hm, if_pos (Or.inr hm)]
theorem rules_ind {num : NumF} {last recent : Bool} {room : Int} {pages : List Int} (hr1 : 1 ≤ room) (hr2 : room ≤ 5) (Ord : List Int → List Int → List Int → Nat → Prop)
    (hpick : ∀ s now sn ag t, t < pages.length → Same now s → Ord sn ag now t → now ≠ [] → pickN (fun q => num sn ag q t) (bitsL s) = (if last = true then latOf pages now t else now.headD 0))
    (hstep : ∀ (sn ag now : List Int) (t p s : Nat) (g : Int), Same now s → Ord sn ag now t → p < 6 → (g = -1 ∨ 0 ≤ g ∧ g < 6) → ((p : Int) ∈ now → g = -1) → Ord (if s.testBit p = true then sn else sn.set p (t : Int)) (ag.set p (t : Int)) (nowR recent now p g) (t + 1)) :
    ∀ (rest : List Int) (t s : Nat) (sn ag now out : List Int), t + rest.length = pages.length → (∀ x ∈ rest, 0 ≤ x ∧ x ≤ 5) → Same now s → (now.length : Int) ≤ room → Ord sn ag now t → ruledG num room rest t s sn ag out = refG last recent room pages rest t now out
  | [], _, _, _, _, _, _, _, _, _, _, _ => rfl
  | x :: rest, t, s, sn, ag, now, out, ht, hx, h, hl, ho => by
    obtain ⟨hx0, hx5⟩ := hx x (by simp)
    obtain ⟨p, rfl⟩ := Int.eq_ofNat_of_zero_le hx0
    have hp : p < 6 := by omega
    simp only [ruledG, refG, Int.toNat_natCast]
    have hfi := full_iff h hp hl
    have hg : (if fullB s p room = true then pickN (fun q => num sn ag q t) (bitsL s) else -1) = gonR last room pages now p t := by
      unfold gonR
      by_cases hf : fullB s p room = true
      · rw [if_pos hf, if_pos (hfi.2 hf)]
        refine hpick s now sn ag t (by simp at ht; omega) h ho (fun e => ?_)
        have := (hfi.2 hf).2
        rw [e] at this; simp at this; omega
      · rw [if_neg hf, if_neg (fun x => hf (hfi.1 x))]
    have hb := bitsL_nonneg h.lt
    have he : errF room s p (gonR last room pages now p t) = 0 ∧ (gonR last room pages now p t = -1 ∨ 0 ≤ gonR last room pages now p t ∧ gonR last room pages now p t < 6) ∧ ((p : Int) ∈ now → gonR last room pages now p t = -1) := by
      rw [← hg]
      by_cases hf : fullB s p room = true
      · rw [if_pos hf]
        have hne : bitsL s ≠ [] := fun e => by
          have h1 := (hfi.2 hf).2
          rw [h.length, ← (bits6 h.lt).2.1, e] at h1
          simp at h1; omega
        rcases pickN_mem (num := fun q => num sn ag q t) hb with ⟨_, e⟩ | hm
        · exact absurd e hne
        · generalize pickN (fun q => num sn ag q t) (bitsL s) = g at hm
          have hm2 := (h.mem g).1 ((h.memL g).2 hm)
          refine ⟨?_, Or.inr ⟨hm2.1, hm2.2.1⟩, fun hpn => absurd hpn (hfi.2 hf).1⟩
          unfold errF
          rw [if_pos hf, if_pos hm2]
      · rw [if_neg hf]
        refine ⟨?_, Or.inl rfl, fun _ => rfl⟩
        unfold errF
        rw [if_neg hf, if_pos rfl]
    rw [hg]
    generalize gonR last room pages now p t = g at he
    obtain ⟨he1, he2, he3⟩ := he
    refine rules_ind hr1 hr2 Ord hpick hstep rest (t + 1) _ _ _ _ _ (by simp at ht; omega) (fun y hy => hx y (by simp [hy])) (h.withR hp he2) ?_ ?_
    · rw [(h.withR (recent := recent) hp he2).length]
      exact cnt_with hr1 hr2 h.lt hp he1 (by rw [← h.length]; exact hl)
    · exact hstep sn ag now t p s g h ho hp he2 he3
structure InOrd (v : List Int) (now : List Int) (t : Nat) : Prop where
  len : v.length = 6
  lt : ∀ a ∈ now, v.getD a.toNat 0 < t
  pw : now.Pairwise fun a b => v.getD a.toNat 0 < v.getD b.toNat 0
theorem InOrd.add {v now l : List Int} {t p : Nat} (h : InOrd v now t) (hs : l.Sublist now) (hp : p < 6) (hr : ∀ a ∈ now, 0 ≤ a) (hn : (p : Int) ∉ l) : InOrd (v.set p (t : Int)) (l ++ [(p : Int)]) (t + 1) := by
  have hv : ∀ a ∈ l, (v.set p (t : Int)).getD a.toNat 0 = v.getD a.toNat 0 := fun a ha => by
    have h0 := hr a (hs.subset ha)
    have : p ≠ a.toNat := fun e => hn (by rw [e, Int.toNat_of_nonneg h0]; exact ha)
    simp [List.getD_eq_getElem?_getD, List.getElem?_set_ne this]
  have hvp : (v.set p (t : Int)).getD ((p : Int)).toNat 0 = t := by
    have := h.len
    simp [List.getD_eq_getElem?_getD, List.getElem?_set_self (show p < v.length by omega)]
  refine ⟨by simpa using h.len, fun a ha => ?_, ?_⟩
  · rw [List.mem_append] at ha
    rcases ha with ha | ha
    · rw [hv a ha]; have := h.lt a (hs.subset ha); omega
    · simp at ha; subst ha; rw [hvp]; omega
  · rw [List.pairwise_append]
    refine ⟨?_, by simp, fun a ha b hb => ?_⟩
    · refine (h.pw.sublist hs).imp_of_mem (fun {a b} ha hb hab => ?_)
      rw [hv a ha, hv b hb]; exact hab
    · simp at hb; subst hb
      rw [hvp, hv a ha]
      exact h.lt a (hs.subset ha)
theorem InOrd.keep {v now : List Int} {t : Nat} (h : InOrd v now t) : InOrd v now (t + 1) := ⟨h.len, fun a ha => by have := h.lt a ha; omega, h.pw⟩
theorem wo_sub {l : List Int} {x : Int} : (wo l x).Sublist l := List.filter_sublist
theorem head_of {num : Int → Int} {v now : List Int} {s t : Nat} (h : Same now s) (ho : InOrd v now t) (hne : now ≠ []) (hn : ∀ a, num a = - v.getD a.toNat 0) : pickN num (bitsL s) = now.headD 0 := by
  obtain ⟨x, r, e⟩ := List.exists_cons_of_ne_nil hne
  rw [pick_head h e (ho.pw.imp (fun {a b} hab => by rw [hn, hn]; omega)), e]
  rfl
theorem oldest_eq {room : Int} {pages : List Int} : ruledOf numO room pages = refPlan false false room pages := by
  unfold ruledOf refPlan
  by_cases h1 : chk room pages = 0
  · rw [if_pos h1, if_pos h1]
    obtain ⟨hr1, hr2, hn, hp⟩ := chk_ok h1
    refine rules_ind hr1 hr2 (fun sn ag now t => InOrd sn now t) (fun s now sn ag t _ h ho hne => head_of h ho hne (fun a => rfl)) (fun sn ag now t p s g h ho hp hg hm => ?_) pages 0 0 _ _ [] [] (by simp) hp Same.nil (by simp; omega) ⟨rfl, by simp, .nil⟩
    by_cases hb : s.testBit p = true
    · have hmem : (p : Int) ∈ now := (h.mem p).2 ⟨by omega, by omega, by simpa using hb⟩
      have := hm hmem
      subst this
      rw [if_pos hb]
      unfold nowR
      have hw : wo now (-1) = now := wo_id (by rw [h.mem]; omega)
      rw [hw, if_neg (by simp [hmem])]
      exact ho.keep
    · rw [if_neg hb]
      have hmem : (p : Int) ∉ now := fun x => hb (by simpa using ((h.mem _).1 x).2.2)
      have hw : (p : Int) ∉ wo now g := fun x => hmem (wo_mem.1 x).1
      unfold nowR
      rw [if_pos (Or.inr hw), wo_id hw]
      exact ho.add wo_sub hp (fun a ha => ((h.mem a).1 ha).1) hw
  · rw [if_neg h1, if_neg h1]
theorem recent_eq {room : Int} {pages : List Int} : ruledOf numR room pages = refPlan false true room pages := by
  unfold ruledOf refPlan
  by_cases h1 : chk room pages = 0
  · rw [if_pos h1, if_pos h1]
    obtain ⟨hr1, hr2, hn, hp⟩ := chk_ok h1
    refine rules_ind hr1 hr2 (fun sn ag now t => InOrd ag now t) (fun s now sn ag t _ h ho hne => head_of h ho hne (fun a => rfl)) (fun sn ag now t p s g h ho hp hg hm => ?_) pages 0 0 _ _ [] [] (by simp) hp Same.nil (by simp; omega) ⟨rfl, by simp, .nil⟩
    unfold nowR
    rw [if_pos (Or.inl rfl)]
    exact ho.add (wo_sub.trans wo_sub) hp (fun a ha => ((h.mem a).1 ha).1) (fun x => (wo_mem.1 x).2 rfl)
  · rw [if_neg h1, if_neg h1]
theorem aft_nxt {pages : List Int} {t : Nat} (ht : t < pages.length) (hn : pages.length ≤ 12) (a b : Int) : aft pages a t < aft pages b t ↔ (nxt pages a t : Int) < nxt pages b t := by
  have key : ∀ p, (aft pages p t = nxt pages p t ∧ nxt pages p t < pages.length) ∨ (aft pages p t = 12 ∧ nxt pages p t = pages.length) := fun p => by
    unfold aft nxt
    have e : (fun y => decide (p = y)) = fun y => decide (y = p) := by funext y; simp [eq_comm]
    rw [e]
    generalize (fun y : Int => decide (y = p)) = q
    unfold ixOf
    cases hf : (pages.drop t).findIdx? q with
    | none =>
      right
      rw [List.findIdx?_eq_none_iff_findIdx_eq] at hf
      rw [hf]
      simp; omega
    | some i =>
      left
      rw [List.findIdx?_eq_some_iff_findIdx_eq] at hf
      obtain ⟨h1, h2⟩ := hf
      rw [h2]
      simp at h1
      simp; omega
  rcases key a with ⟨a1, a2⟩ | ⟨a1, a2⟩ <;> rcases key b with ⟨b1, b2⟩ | ⟨b1, b2⟩ <;> omega
theorem later_eq {room : Int} {pages : List Int} : ruledOf (numL pages) room pages = refPlan true false room pages := by
  unfold ruledOf refPlan
  by_cases h1 : chk room pages = 0
  · rw [if_pos h1, if_pos h1]
    obtain ⟨hr1, hr2, hn, hp⟩ := chk_ok h1
    refine rules_ind hr1 hr2 (fun _ _ _ _ => True) (fun s now sn ag t ht h ho hne => ?_) (fun _ _ _ _ _ _ _ _ _ _ _ _ => trivial) pages 0 0 _ _ [] [] (by simp) hp Same.nil (by simp; omega) trivial
    rw [if_pos rfl]
    show pickN (fun q => aft pages q t) (bitsL s) = latOf pages now t
    rw [pick_congr (num' := fun q => (nxt pages q t : Int)) (fun a b => aft_nxt ht hn a b), ← h.order]
    unfold orderOf latOf
    rw [pick_filter]
    congr 1
    funext g p
    unfold latG
    by_cases hm : p ∈ now
    · simp [hm]
    · simp [hm]
  · rw [if_neg h1, if_neg h1]
end Go.Proofs.YtcdhajbhpnbdkaaDoor

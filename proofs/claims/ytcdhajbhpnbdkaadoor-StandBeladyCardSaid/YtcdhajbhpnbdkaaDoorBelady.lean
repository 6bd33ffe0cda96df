/-
  Of what stands the page that is needed last is distributed: no plan has fewer settings.
  Conditions: none; lemmas.
-/
import Derived.Test.YtcdhajbhpnbdkaaDoorRulesRun
set_option linter.unusedSimpArgs false
set_option linter.unusedVariables false
namespace Go.Proofs.YtcdhajbhpnbdkaaDoor
open Go.Abs Go.Pur
set_option maxRecDepth 100000
section
variable {room : Int} {pages : List Int}
theorem need_far {p s g : Nat} {r : List Nat} (h1 : 1 ≤ room) (hl : ∀ q ∈ p :: r, q < 6) (hs : s < 64) (hg : g ∈ bitsN s) (hb : s.testBit p = false) (hc : (cnt s : Int) = room) (hf : ∀ x ∈ bitsN s, r.idxOf x ≤ r.idxOf g) :
  need room (p :: r) s = need room r (setB (clrB s g) p) + 1 := by
 have hp := hl p (by simp)
 have hr : ∀ q ∈ r, q < 6 := fun q hq => hl q (by simp [hq])
 obtain ⟨g6, gb⟩ := (bitsN_mem hs).1 hg
 have key : ∀ x ∈ bitsN s, (need room r (setB (clrB s x) p) : Int) = bnd room r (setB (clrB s x) p) := fun x hx => by
  obtain ⟨x6, xb⟩ := (bitsN_mem hs).1 hx
  exact need_bnd h1 r hr (set_lt (clr_lt hs x6) hp) (by rw [cnt_swap hs hp x6 xb hb]; omega)
 have u := swap_le hr hs hp g6 gb hb hc hf
 have hne : bitsN s ≠ [] := fun e => by rw [e] at hg; cases hg
 have hmem := minL_mem (l := (bitsN s).map fun x => need room r (setB (clrB s x) p)) (by simpa using hne)
 have hle := minL_le (l := (bitsN s).map fun x => need room r (setB (clrB s x) p)) (List.mem_map_of_mem hg)
 obtain ⟨g', hg', e'⟩ := List.mem_map.1 hmem
 obtain ⟨g6', gb'⟩ := (bitsN_mem hs).1 hg'
 have v := swap_ge (room := room) hr hs hp g6' gb' hb hc
 have k1 := key g hg
 have k2 := key g' hg'
 simp only [need, hb, Bool.false_eq_true, if_false]
 rw [if_neg (by omega)]
 rw [← e'] at hle ⊢
 omega
theorem idx_nat {l : List Int} {x : Int} (hl : ∀ q ∈ l, 0 ≤ q) (hx : 0 ≤ x) : (l.map Int.toNat).idxOf x.toNat = l.findIdx fun y => decide (y = x) := by
 induction l with
 | nil => rfl
 | cons a l ih =>
  have ha := hl a (by simp)
  rw [List.map_cons, List.idxOf_cons, List.findIdx_cons, ih fun q hq => hl q (by simp [hq])]
  by_cases e : a = x
  ·subst e; simp
  ·have h2 : (a.toNat == x.toNat) = false := by
    rw [beq_eq_false_iff_ne]; omega
   rw [h2]; simp [e]
theorem later_need (hr1 : 1 ≤ room) (hr2 : room ≤ 5) (hpg : ∀ q ∈ pages, 0 ≤ q ∧ q ≤ 5) : ∀ (k t s : Nat) (now : List Int), t + k = pages.length → Same now s → (now.length : Int) ≤ room → missR true false room pages (pages.drop t) t now = need room (rem6 pages t) s
 | 0, t, s, now, hk, h, hl => by
  unfold rem6
  rw [List.drop_of_length_le (by omega), List.drop_of_length_le (by simp; omega)]
  rfl
 | k + 1, t, s, now, hk, h, hl => by
  have ht : t < pages.length := by omega
  obtain ⟨p, hp⟩ := Int.eq_ofNat_of_zero_le (hpg pages[t] (List.getElem_mem ht)).1
  have hp6 : p < 6 := by have := (hpg pages[t] (List.getElem_mem ht)).2; omega
  have hd : pages.drop t = (p : Int) :: pages.drop (t + 1) := by rw [List.drop_eq_getElem_cons ht, hp]
  have hrem := rem6_cons ht hp
  obtain ⟨g1, g2, g3⟩ := gonR_ok (last := true) (pages := pages) (t := t) hr1 h hp6 hl
  have hS := h.withR (recent := false) hp6 g2
  have hcn : ((nowR false now p (gonR true room pages now p t)).length : Int) ≤ room := by
   rw [hS.length]
   exact cnt_with hr1 hr2 h.lt hp6 g1 (by rw [← h.length]; exact hl)
  have ih := later_need hr1 hr2 hpg k (t + 1) _ _ (by omega) hS hcn
  rw [hd, hrem]
  simp only [missR]
  rw [ih]
  have hlen := h.length
  by_cases hm : (p : Int) ∈ now
  ·have hb : s.testBit p = true := by simpa using ((h.mem p).1 hm).2.2
   rw [if_pos hm, g3 hm, withB_no, setB_in hb]
   simp only [need, hb, if_true]
   omega
  ·have hb : s.testBit p = false := by
    cases hb : s.testBit p with
    | false => rfl
    | true => exact absurd ((h.mem p).2 ⟨by omega, by omega, by simpa using hb⟩) hm
   rw [if_neg hm]
   by_cases hf : (now.length : Int) = room
   ·have hg : gonR true room pages now p t = latOf pages now t := by unfold gonR; rw [if_pos ⟨hm, hf⟩, if_pos rfl]
    have hmem := gonR_full (last := true) (pages := pages) (t := t) hr1 h ⟨hm, hf⟩
    have hmax : ∀ x ∈ now, (nxt pages x t : Int) ≤ nxt pages (gonR true room pages now p t) t := fun x hx => by
     rw [hg, latOf_pick, h.order]
     exact pickN_max (num := fun p => (nxt pages p t : Int)) (bitsL_nonneg h.lt) x ((h.memL x).1 hx)
    generalize gonR true room pages now p t = g at hmem hmax
    obtain ⟨gg0, gg6, ggb⟩ := (h.mem g).1 hmem
    obtain ⟨g, rfl⟩ := Int.eq_ofNat_of_zero_le gg0
    rw [Int.toNat_natCast] at ggb
    have hgb : g ∈ bitsN s := (bitsN_mem h.lt).2 ⟨by omega, ggb⟩
    have h6 : ∀ q ∈ p :: rem6 pages (t + 1), q < 6 := fun q hq => by
     rcases List.mem_cons.1 hq with rfl | hq
     ·exact hp6
     ·unfold rem6 at hq
      obtain ⟨x, hx, rfl⟩ := List.mem_map.1 (List.mem_of_mem_drop hq)
      have := hpg x hx; omega
    have hnx : ∀ x : Nat, s.testBit x = true → x < 6 → nxt pages (x : Int) t = t + 1 + (rem6 pages (t + 1)).idxOf x := fun x hx hx6 => by
     rw [nxt_step ht, hp, if_neg (fun e => by
      have : p = x := by omega
      rw [this, hx] at hb; cases hb)]
     unfold nxt rem6
     rw [← List.map_drop]
     have := idx_nat (l := pages.drop (t + 1)) (x := (x : Int)) (fun q hq => (hpg q (List.mem_of_mem_drop hq)).1) (by omega)
     rw [Int.toNat_natCast] at this
     rw [this]
    rw [need_far hr1 h6 h.lt hgb hb (by omega) (fun x hx => by
     obtain ⟨x6, xb⟩ := (bitsN_mem h.lt).1 hx
     have h2 := hmax (x : Int) ((h.mem x).2 ⟨by omega, by omega, by simpa using xb⟩)
     rw [hnx x xb x6, hnx g ggb (by omega)] at h2
     omega), withB_yes]
    omega
   ·have hg : gonR true room pages now p t = -1 := by unfold gonR; rw [if_neg fun h => hf h.2]
    rw [hg, withB_no]
    simp only [need, hb, Bool.false_eq_true, if_false]
    rw [if_pos (by omega)]
    omega
theorem later_all (hc : chk room pages = 0) : missR true false room pages pages 0 [] = need room (rem6 pages 0) 0 := by
 obtain ⟨hr1, hr2, hn, hpg⟩ := chk_ok hc
 exact later_need hr1 hr2 hpg pages.length 0 0 [] (by omega) Same.nil (by simp; omega)
end
end Go.Proofs.YtcdhajbhpnbdkaaDoor

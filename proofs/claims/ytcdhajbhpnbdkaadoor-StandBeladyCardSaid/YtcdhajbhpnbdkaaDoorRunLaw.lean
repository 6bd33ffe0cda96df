/-
  run: what stands, and how much is set, by a plan: the plain law.
  Conditions: none; lemmas.
-/
import Derived.Test.YtcdhajbhpnbdkaaDoorOutLaw
set_option linter.unusedSimpArgs false
set_option linter.unusedVariables false
namespace Go.Proofs.YtcdhajbhpnbdkaaDoor
open Go.Abs Go.Pur
set_option maxRecDepth 100000
theorem bit_i64_tab : (List.range 64).all (fun s => (List.range 6).all fun p =>
  (match shrO .i64 (s : Int) (p : Int) with | some x => decide (andI .i64 x 1 = if s.testBit p then 1 else 0) | none => false) &&
  (match shlO .i64 1 (p : Int) with | some x => decide (orI .i64 (s : Int) x = ((setB s p : Nat) : Int)) && decide (andNotI .i64 (s : Int) x = ((clrB s p : Nat) : Int)) | none => false)) = true := by kernel_rfl
theorem bit_i64 {s p : Nat} (hs : s < 64) (hp : p < 6) : ∃ x y, shrO .i64 (s : Int) (p : Int) = some x ∧ andI .i64 x 1 = (if s.testBit p then 1 else 0) ∧ shlO .i64 1 (p : Int) = some y ∧ orI .i64 (s : Int) y = ((setB s p : Nat) : Int) ∧ andNotI .i64 (s : Int) y = ((clrB s p : Nat) : Int) := by
 have := bit_i64_tab
 rw [List.all_eq_true] at this
 have := this s (List.mem_range.2 hs)
 rw [List.all_eq_true] at this
 have := this p (List.mem_range.2 hp)
 rw [Bool.and_eq_true] at this
 obtain ⟨h1, h2⟩ := this
 split at h1
 ·rename_i x ex
  split at h2
  ·rename_i y ey
   simp only [Bool.and_eq_true, decide_eq_true_eq] at h1 h2
   exact ⟨x, y, ex, h1, ey, h2.1, h2.2⟩
  ·cases h2
 ·cases h1
def runR (r : List Nat × Int × Int) : (Ck × List Int) × Int × Bool := if r.2.2 = 0 then ((.nz, r.1.map Int.ofNat), r.2.1, true) else ((.nz, []), 0, false)
section
variable {room : Int} {pages plan : List Int} {F : Nat}
theorem l50 (hr1 : 1 ≤ room) (hr2 : room ≤ 5) (hpg : ∀ q ∈ pages, 0 ≤ q ∧ q ≤ 5) (hn : pages.length ≤ 12) (hpl : plan.length = pages.length) : ∀ (k i m s : Nat) (set : Int) (out : List Nat), i + k = pages.length → k < m → s < 64 → (cnt s : Int) ≤ room → 0 ≤ set → set ≤ i → out.length = i →
  f50_L0 F room pages plan (pages.length : Int) (fun (v61, v62) => some ((Ck.nz, v61), v62, true)) m (out.map Int.ofNat, (s : Int), (cnt s : Int), set, (i : Int)) = some (runR (flo room ((pages.zip plan).drop i) s set out))
 | k, i, 0, s, set, out, _, h, _, _, _, _, _ => by omega
 | 0, i, m + 1, s, set, out, hk, _, hs, hc, hs1, hs2, ho => by
  rw [f50_L0.eq_def]; dsimp only
  have h1 : decide ((i : Int) < (pages.length : Int)) = false := decide_eq_false (by omega)
  simp only [Option.bind_some, h1]
  rw [List.drop_of_length_le (by simp; omega)]
  simp [runR, flo]
 | k + 1, i, m + 1, s, set, out, hk, hm, hs, hc, hs1, hs2, ho => by
  rw [f50_L0.eq_def]; dsimp only
  have h1 : decide ((i : Int) < (pages.length : Int)) = true := decide_eq_true (by omega)
  have hi : i < pages.length := by omega
  have hj : i < plan.length := by omega
  obtain ⟨p, hp⟩ := Int.eq_ofNat_of_zero_le (hpg pages[i] (List.getElem_mem hi)).1
  have hp6 : p < 6 := by have := (hpg pages[i] (List.getElem_mem hi)).2; omega
  obtain ⟨g, hg⟩ : ∃ g, plan[i] = g := ⟨_, rfl⟩
  have hz : (pages.zip plan).drop i = ((p : Int), g) :: (pages.zip plan).drop (i + 1) := by
   rw [List.drop_eq_getElem_cons (by simp; omega), List.getElem_zip, hp, hg]
  have w : IntKind.i64.wrap ((i : Int) + 1) = ((i + 1 : Nat) : Int) := wrap_nat (by omega)
  have w2 : IntKind.i64.wrap (set + 1) = set + 1 := wrapN (by omega) (by omega)
  have w3 : IntKind.i64.wrap ((cnt s : Int) + 1) = (cnt s : Int) + 1 := wrapN (by omega) (by omega)
  have w4 : IntKind.i64.wrap ((cnt s : Int) - 1) = (cnt s : Int) - 1 := wrapN (by omega) (by omega)
  obtain ⟨x, y, b1, b2, b3, b4, b5⟩ := bit_i64 hs hp6
  have ap : ∀ t : Nat, app1 (out.map Int.ofNat) (t : Int) = some ((out ++ [t]).map Int.ofNat) := fun t => by
   rw [app1_at (by simp; omega), List.map_append]; rfl
  rw [hz]
  simp only [flo, Int.toNat_natCast]
  simp only [Option.bind_some, h1, gI_at hi, hp, b1, b2, gI_at hj, hg, w, w2, w3, b3]
  cases hb : s.testBit p with
  | true =>
   have hf : fullB s p room = false := by unfold fullB; rw [hb]; rfl
   simp only [if_true, decide_true]
   by_cases hm1 : g = -1
   ·subst hm1
    rw [if_pos (errF_no hf)]; simp only [withB_no, setB_in hb, if_true]
    simp only [show decide ((1 : Int) = 0) = false from rfl, decide_true, ap, Option.bind_some]
    exact l50 hr1 hr2 hpg hn hpl k (i + 1) m s set (out ++ [s]) (by omega) (by omega) hs hc hs1 (by omega) (by simp [ho])
   ·have he : errF room s p g = 15 := by unfold errF; rw [hf]; simp [hm1]
    rw [he]
    simp only [decide_eq_false hm1]
    simp [runR]
  | false =>
   simp only [Bool.false_eq_true, if_false, show decide ((0 : Int) = 1) = false from rfl, decide_true]
   by_cases hroom : (cnt s : Int) < room
   ·have hf : fullB s p room = false := by unfold fullB; rw [hb]; simp; omega
    simp only [decide_eq_true hroom]
    by_cases hm1 : g = -1
    ·subst hm1
     have hne : setB s p ≠ s := fun e => by have := set_bit hs hp6 hp6; rw [e, hb] at this; simp at this
     have hcs : cnt (setB s p) = cnt s + 1 := by rw [cnt_set hs hp6, hb]; rfl
     rw [if_pos (errF_no hf)]; simp only [withB_no, if_neg hne]
     simp only [decide_true, b4, ap, Option.bind_some]
     have := l50 hr1 hr2 hpg hn hpl k (i + 1) m (setB s p) (set + 1) (out ++ [setB s p]) (by omega) (by omega) (set_lt hs hp6) (by omega) (by omega) (by omega) (by simp [ho])
     rw [hcs, show ((cnt s + 1 : Nat) : Int) = (cnt s : Int) + 1 from rfl] at this
     exact this
    ·have he : errF room s p g = 15 := by unfold errF; rw [hf]; simp [hm1]
     rw [he]
     simp only [decide_eq_false hm1]
     simp [runR]
   ·have hf : fullB s p room = true := by unfold fullB; rw [hb]; simp; omega
    simp only [decide_eq_false hroom]
    by_cases hg0 : g < 0
    ·have he : errF room s p g = 2 := by unfold errF; rw [hf]; simp; omega
     rw [he]
     simp only [decide_eq_true hg0]
     simp [runR]
    ·by_cases hg5 : 5 < g
     ·have he : errF room s p g = 2 := by unfold errF; rw [hf]; simp; omega
      rw [he]
      simp only [decide_eq_false hg0, decide_eq_true hg5]
      simp [runR]
     ·obtain ⟨q, rfl⟩ := Int.eq_ofNat_of_zero_le (show 0 ≤ g by omega)
      have hq6 : q < 6 := by omega
      obtain ⟨x', y', c1, c2, c3, c4, c5⟩ := bit_i64 hs hq6
      simp only [decide_eq_false hg0, decide_eq_false hg5, c1, c2, Option.bind_some]
      cases hbq : s.testBit q with
      | false =>
       have he : errF room s p (q : Int) = 2 := by unfold errF; rw [hf]; simp [hbq]
       rw [he]
       simp only [Bool.false_eq_true, if_false, decide_true]
       simp [runR]
      | true =>
       have hpq : p ≠ q := fun e => by rw [e, hbq] at hb; cases hb
       have hcl := clr_lt hs hq6
       have hbc : (clrB s q).testBit p = false := by rw [clr_bit hs hq6 hp6, hb]; rfl
       obtain ⟨x2, y2, d1, d2, d3, d4, d5⟩ := bit_i64 hcl hp6
       rw [b3] at d3
       obtain rfl := Option.some.inj d3
       have hcs := cnt_swap hs hp6 hq6 hbq hb
       have hcl1 := cnt_clr hs hq6 hbq
       have hne : setB (clrB s q) p ≠ s := fun e => by have := set_bit hcl hp6 hp6; rw [e, hb] at this; simp at this
       have w5 : IntKind.i64.wrap ((cnt s : Int) - 1 + 1) = (cnt s : Int) := by rw [wrapN (by omega) (by omega)]; omega
       rw [if_pos (errF_yes hf hq6 hbq)]; simp only [withB_yes, if_neg hne]
       simp only [if_true, show decide ((1 : Int) = 0) = false from rfl]
       rw [bindS c3]
       simp only [c5, w4]
       rw [bindS d1]
       simp only [d2, hbc, Bool.false_eq_true, if_false, decide_true, d4, w5]
       rw [bindS (ap _)]
       have := l50 hr1 hr2 hpg hn hpl k (i + 1) m (setB (clrB s q) p) (set + 1) (out ++ [setB (clrB s q) p]) (by omega) (by omega) (set_lt hcl hp6) (by omega) (by omega) (by omega) (by simp [ho])
       rw [hcs] at this
       exact this
theorem f50_eq (hc : chk room pages = 0) (hF : 100 < F) : f50S F room pages plan = some (runR (floorsOf room pages plan)) := by
 obtain ⟨hr1, hr2, hn, hpg⟩ := chk_ok hc
 unfold f50S floorsOf
 rw [if_pos hc]
 simp only [Option.bind_some]
 by_cases h : plan.length = pages.length
 ·rw [if_pos h, decide_eq_true (show (plan.length : Int) = (pages.length : Int) by omega)]
  have := @l50 room pages plan F hr1 hr2 hpg hn h pages.length 0 F 0 0 [] (by omega) (by omega) (by decide) (by rw [cnt_zero]; omega) (by decide) (by decide) rfl
  rw [cnt_zero] at this
  exact this
 ·rw [if_neg h, decide_eq_false (show ¬ (plan.length : Int) = (pages.length : Int) by omega)]
  rfl
end
end Go.Proofs.YtcdhajbhpnbdkaaDoor

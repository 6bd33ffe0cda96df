/-
  StandBound answers true: the plain law.
  Conditions: none; lemmas.
-/
import Derived.Test.YtcdhajbhpnbdkaaDoorLaw9
import Derived.Test.YtcdhajbhpnbdkaaDoorOutLaw3
import Derived.Test.YtcdhajbhpnbdkaaDoorCmpLaw
set_option linter.unusedSimpArgs false
set_option linter.unusedVariables false
namespace Go.Proofs.YtcdhajbhpnbdkaaDoor
open Go.Abs Go.Pur
set_option maxRecDepth 100000
theorem errT_ok {n : Nat} : ∀ {l : List Int} {f : Nat} {last : Int}, incF n f l → last < f → errT n last l = 0
 | [], _, _, _, _ => rfl
 | a :: l, f, last, ⟨t, e, h1, h2, h3⟩, h => by
  subst e
  simp only [errT]
  rw [if_neg (by omega), if_neg (by omega)]
  exact errT_ok h3 (by omega)
theorem bef_irr1 {a b : List Int} (h1 : bef a b = true) (h2 : bef b a = true) : False := by
 have := bef_trans h1 h2
 rw [bef_irr] at this; cases this
theorem Best.only {P : Nat → Prop} {M : Nat} {v v' : List Int} {b b' : Bool} (h : Best P M v b) (h' : Best P M v' b') (hex : ∃ s, s < M ∧ P s) : b = true ∧ v = v' ∧ ∃ s, s < M ∧ v = bitsL s ∧ P s := by
 obtain ⟨s, hs, hP⟩ := hex
 rcases h with ⟨_, _, h⟩ | ⟨hb, s0, h1, rfl, h2, h3⟩
 ·exact absurd hP (h s hs)
 ·rcases h' with ⟨_, _, h'⟩ | ⟨hb', s1, h4, rfl, h5, h6⟩
  ·exact absurd hP (h' s hs)
  ·refine ⟨hb, ?_, s0, h1, rfl, h2⟩
   rcases h3 s1 h4 h5 with e | e
   ·exact e.symm
   ·rcases h6 s0 h1 h2 with e' | e'
    ·exact e'
    ·exact (bef_irr1 e e').elim
theorem shl64_tab : (List.range 13).all (fun t => decide (shlI .i64 1 (t : Int) = ((2 ^ t : Nat) : Int))) = true := by kernel_rfl
theorem shl64_at {t : Nat} (h : t ≤ 12) : shlO .i64 1 (t : Int) = some ((2 ^ t : Nat) : Int) := by
 have := shl64_tab
 rw [List.all_eq_true] at this
 have := this t (List.mem_range.2 (by omega))
 rw [shlO_at]
 simpa using this
section
variable {pages : List Int} {room : Int} {F : Nat}
theorem f41_eq {s : Nat} (hr1 : 1 ≤ room) (hr2 : room ≤ 5) (hn : pages.length ≤ 12) (hc : chk room pages = 0) (hs : s < 2 ^ pages.length) (hF : 1000 < F) : f41S F room pages (bitsL s) = some (bndT room pages (bitsL s), 0) := by
 have hl : (bitsL s).length ≤ 12 := by rw [bitsL_len, ← bitsN_len]; exact bitsN_le
 obtain ⟨r, e86, e86a, e86b, e86c⟩ := @f86_eq pages (bitsL s) room F (by omega) (by omega) hF
 have he : errA room pages (bitsL s) = 0 := by
  unfold errA
  rw [if_pos hc]
  exact errT_ok (bitsL_inc hs) (by decide)
 obtain ⟨S, s1, s2, s3⟩ := e86c (by rw [e86a, he])
 unfold f41S
 rw [bindS e86]
 obtain ⟨r1, r2⟩ := r
 simp only at e86a s2
 subst e86a s2
 dsimp only
 simp only [he, obind, decide_true]
 rw [bindS (f87_eq hr1 hr2 hn s1 hF), s3]
theorem f46_eq {s : Nat} {z : Int} (hr1 : 1 ≤ room) (hr2 : room ≤ 5) (hn : pages.length ≤ 12) (hc : chk room pages = 0) (hs : s < 2 ^ pages.length) (hF : 1000 < F) : f46S F room pages z (bitsL s) = some (if bndT room pages (bitsL s) < z then 14 else 0) := by
 unfold f46S
 rw [bindS (f41_eq hr1 hr2 hn hc hs hF)]
 dsimp only
 simp only [obind, decide_true]
 by_cases h : bndT room pages (bitsL s) < z
 ·simp only [decide_eq_true h, if_pos h]
 ·simp only [decide_eq_false h, if_neg h]
theorem l9 {M : Nat} {x3 : Int × List Int × Int} {K : Ck × List Int × Bool → Option Bool} (hr1 : 1 ≤ room) (hr2 : room ≤ 5) (hpg : ∀ q ∈ pages, 0 ≤ q ∧ q ≤ 5) (hn : pages.length ≤ 12) (hc : chk room pages = 0) (hF : 1000 < F) (hM : M = 2 ^ pages.length) (hx : x3.1 = (need room (rem6 pages 0) 0 : Nat)) :
  ∀ (k j m : Nat) (c : Ck) (v : List Int) (b : Bool), j + k = M → k < m → Best (fun s => bndT room pages (bitsL s) = x3.1) j v b → v.length ≤ 12 →
  ∃ c' v' b', Best (fun s => bndT room pages (bitsL s) = x3.1) M v' b' ∧ f9_L0 F (room, pages) x3 (M : Int) K m (c, v, b, (j : Int)) = K (c', v', b')
 | k, j, 0, c, v, b, _, h, _, _ => by omega
 | 0, j, m + 1, c, v, b, hk, _, hB, hv => by
  rw [f9_L0.eq_def]; dsimp only
  have h1 : decide ((j : Int) < (M : Int)) = false := decide_eq_false (by omega)
  simp only [obind, h1]
  have : j = M := by omega
  subst this
  exact ⟨c, v, b, hB, rfl⟩
 | k + 1, j, m + 1, c, v, b, hk, hm, hB, hv => by
  rw [f9_L0.eq_def]; dsimp only
  have hM2 : 2 ^ pages.length ≤ 4096 := Nat.le_trans (Nat.pow_le_pow_right (by decide) hn) (by decide)
  have h1 : decide ((j : Int) < (M : Int)) = true := decide_eq_true (by omega)
  have hj : j < 4096 := by omega
  have hj2 : j < 2 ^ pages.length := by omega
  have w : IntKind.i64.wrap ((j : Int) + 1) = ((j + 1 : Nat) : Int) := wrap_nat (by omega)
  have hc12 : (bitsL j).length ≤ 12 := by rw [bitsL_len, ← bitsN_len]; exact bitsN_le
  have hle := bndT_le hr1 hpg hn hj2
  have go := fun c v b => l9 (K := K) hr1 hr2 hpg hn hc hF hM hx k (j + 1) m c v b (by omega) (by omega)
  simp only [obind, h1]
  rw [bindS (f51_eq hj (by omega))]
  dsimp only
  rw [bindS (f53_eq hr1 hr2 hn hj2 hF), bindS (f41_eq hr1 hr2 hn hc hj2 hF)]
  dsimp only
  simp only [obind, decide_true, decide_eq_false (show ¬ x3.1 < bndT room pages (bitsL j) by omega), w]
  by_cases hP : bndT room pages (bitsL j) = x3.1
  ·simp only [decide_eq_true hP]
   cases b with
   | false => exact go _ _ _ (hB.take hP (by simp)) hc12
   | true =>
    by_cases c2 : ((bitsL j).length : Int) < v.length
    ·simp only [decide_eq_true c2]
     exact go _ _ _ (hB.take hP fun _ => bef_iff.2 (Or.inl (by omega))) hc12
    ·by_cases c3 : ((bitsL j).length : Int) = v.length
     ·have hlen : (bitsL j).length = v.length := by omega
      simp only [decide_eq_false c2, decide_eq_true c3]
      rw [bindS (f54_eq (F := F) (b := v) (show (bitsL j).length ≤ 1000 by omega) hF)]
      by_cases c4 : cmpL (bitsL j) v < 0
      ·simp only [decide_eq_true c4]
       exact go _ _ _ (hB.take hP fun _ => bef_iff.2 (Or.inr ⟨hlen, cmpL_lt.1 c4⟩)) hc12
      ·simp only [decide_eq_false c4]
       refine go _ _ _ (hB.skip fun _ => ⟨rfl, ?_⟩) hv
       rcases ltL_tot hlen with e | e | e
       ·exact Or.inl e
       ·exact absurd (cmpL_lt.2 e) c4
       ·exact Or.inr (bef_iff.2 (Or.inr ⟨hlen.symm, e⟩))
     ·simp only [decide_eq_false c2, decide_eq_false c3]
      exact go _ _ _ (hB.skip fun _ => ⟨rfl, Or.inr (bef_iff.2 (Or.inl (by omega)))⟩) hv
  ·simp only [decide_eq_false hP]
   exact go _ _ _ (hB.skip fun h => absurd h hP) hv
end
theorem standBound_eq {a b c d e f g h i j k l m n : Int} (ha : byte a) (hb : byte b) (hs : ∀ p ∈ [c, d, e, f, g, h, i, j, k, l, m, n], byte p) : f9S fuel a b c d e f g h i j k l m n = some true := by
 obtain ⟨room, pages, e1, h1, h2, h3, h4⟩ := made_ok (room := 4) (times := 9) (by decide) (by decide) (by decide) (by decide) ha hb hs
 have hn : pages.length ≤ 12 := by omega
 have hr2 : room ≤ 5 := by omega
 have hc : chk room pages = 0 := chk_intro h1 (by omega) hn h4
 have hF : 1000 < fuel := by rw [fuel_eq]; decide
 have hp9 : 2 ^ pages.length ≤ 2 ^ 9 := Nat.pow_le_pow_right (by decide) (by omega)
 have hp9' : (2 : Nat) ^ 9 = 512 := by decide
 have hM : 2 ^ pages.length ≤ 4096 := by omega
 have s5 : ∀ {α : Type} (x : α), onS pages x = some x := fun x => onS_at (by omega)
 have eb : bruS room pages = some (((need room (rem6 pages 0) 0 : Nat) : Int), firstN room (rem6 pages 0) 0, ((ways room (rem6 pages 0) 0 : Nat) : Int)) := by
  unfold bruS
  rw [decide_eq_true hc]
 obtain ⟨sm, hsm, hmx⟩ := bndT_max h1 h4 hn
 have hnd : (need room (rem6 pages 0) 0 : Int) < 1000 := by
  have := (bst_le (room := room) (rem6 pages 0) 0).1
  rw [bst_need h1] at this
  have e : (rem6 pages 0).length = pages.length := by unfold rem6; simp
  omega
 have e43 : ∃ v b, Best (fun s => bndT room pages (bitsL s) = (need room (rem6 pages 0) 0 : Nat)) (2 ^ pages.length) v b ∧ f43S fuel room pages = some ((Ck.nz, v), 0) := by
  unfold f43S
  simp only [s5, obind, hc, decide_true, shl_at hn]
  obtain ⟨v, b, hB, e⟩ := @l43 pages room fuel (fewS room pages, 0) (2 ^ pages.length) (fun v32 => some ((Ck.nz, v32), 0)) h1 hr2 hn hM hF (2 ^ pages.length) 0 fuel [] false (by omega) (by rw [fuel_eq]; omega) (Or.inl ⟨rfl, rfl, fun s hs => by omega⟩) (by simp)
  have hfw : fewS room pages = (need room (rem6 pages 0) 0 : Nat) := by unfold fewS; rw [if_pos hc]
  simp only [hfw] at hB
  exact ⟨v, b, hB, e⟩
 obtain ⟨v, bv, hBv, e43⟩ := e43
 have e39 : f39S fuel room pages = some ((Ck.nz, spG pages pages.length 0), 0) := by
  unfold f39S
  simp only [s5, hc, obind, decide_true, f84_eq (F := fuel) (room := room) hn (by omega)]
 have hsl := @spG_len pages pages.length 0
 unfold f9S
 rw [bindS e1, bindS eb]
 dsimp only
 rw [obind, bindS (shl64_at hn)]
 have loop := fun K => @l9 pages room fuel (2 ^ pages.length) (((need room (rem6 pages 0) 0 : Nat) : Int), firstN room (rem6 pages 0) 0, ((ways room (rem6 pages 0) 0 : Nat) : Int)) K h1 hr2 h4 hn hc hF rfl rfl (2 ^ pages.length) 0 fuel .nz [] false (by omega) (by rw [fuel_eq]; omega) (Or.inl ⟨rfl, rfl, fun s hs => by omega⟩) (by simp)
 obtain ⟨c', v', b', hB', e9⟩ := loop _
 refine e9.trans ?_
 clear e9 loop
 obtain ⟨hb', hv, s0, hs0, hvs, hPs⟩ := Best.only hB' hBv ⟨sm, hsm, hmx⟩
 subst hb'
 subst hv
 have hvl : v'.length ≤ 12 := by rw [hvs, bitsL_len, ← bitsN_len]; exact bitsN_le
 have hPs' : bndT room pages (bitsL s0) = ((need room (rem6 pages 0) 0 : Nat) : Int) := hPs
 have e46 : f46S fuel room pages ((need room (rem6 pages 0) 0 : Nat) : Int) v' = some 0 := by
  rw [hvs, f46_eq h1 hr2 hn hc hs0 hF, if_neg (by omega)]
 have e46b : f46S fuel room pages (IntKind.i64.wrap (((need room (rem6 pages 0) 0 : Nat) : Int) + 1)) v' = some 14 := by
  rw [wrapN (by omega) (by omega), hvs, f46_eq h1 hr2 hn hc hs0 hF, if_pos (by omega)]
 dsimp only
 rw [bindS e43, bindS e39]
 dsimp only
 simp only [obind, decide_true, onS_at (l := v') (show v'.length < 1000000000 by omega)]
 rw [bindS (f55_eq (F := fuel) (room := room) (by omega) (by rw [fuel_eq]; omega))]
 dsimp only
 rw [bindS (f45_eq (F := fuel) (l := spG pages pages.length 0) (by omega) hF)]
 dsimp only
 rw [bindS e46]
 simp only [obind, decide_true]
 rw [bindS e46b]
 simp only [obind, decide_true, works_true]
theorem standBound_is {a b c d e f g h i j k l m n : Int} (ha : byte a) (hb : byte b) (hs : ∀ p ∈ [c, d, e, f, g, h, i, j, k, l, m, n], byte p) :
  E Tryd.prog Y0 9 [.a [kv .u8 a, kv .u8 b, kv .u8 c, kv .u8 d, kv .u8 e, kv .u8 f, kv .u8 g, kv .u8 h, kv .u8 i, kv .u8 j, kv .u8 k, kv .u8 l, kv .u8 m, kv .u8 n]] [] = some (.v (.bool true), [], none) := f9_is (standBound_eq ha hb hs)
end Go.Proofs.YtcdhajbhpnbdkaaDoor

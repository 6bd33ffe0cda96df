/-
  The number of ways: the plain law.
  Conditions: none; lemmas.
-/
import Derived.Test.YtmnmfmghmenkkaaLaw3b
set_option linter.unusedSimpArgs false
set_option linter.unusedVariables false
namespace Go.Proofs.Ytmnmfmghmenkkaa
open Go.Abs Go.Pur
set_option maxRecDepth 100000
def tab (p a b : List UInt8) (t : Nat) : List Int := (List.range (p.length + 1)).map fun s => ((if s ≤ t then cnt a (p.take s) else cnt b (p.take s) : Nat) : Int)
theorem tab_len {p a b : List UInt8} {t : Nat} : (tab p a b t).length = p.length + 1 := by simp [tab]
theorem tab_at {p a b : List UInt8} {t s : Nat} (h : s < (tab p a b t).length) : (tab p a b t)[s] = ((if s ≤ t then cnt a (p.take s) else cnt b (p.take s) : Nat) : Int) := by simp [tab]
theorem take_one {p : List UInt8} {u : Nat} (h : u < p.length) : p.take (u + 1) = p.take u ++ [p[u]] := by
 rw [List.take_add_one, List.getElem?_eq_getElem h]
 rfl
theorem tab_same {p a : List UInt8} {c : UInt8} {u : Nat} (h : u < p.length) (hc : c ≠ p[u]) : tab p a (a ++ [c]) (u + 1) = tab p a (a ++ [c]) u := by
 apply List.ext_getElem
 ·rw [tab_len, tab_len]
 ·intro s h1 h2
  rw [tab_at h1, tab_at h2]
  by_cases hs : s ≤ u
  ·rw [if_pos hs, if_pos (by omega)]
  ·rw [if_neg hs]
   by_cases hs' : s ≤ u + 1
   ·obtain rfl : s = u + 1 := by omega
    rw [if_pos hs', take_one h, cnt_snoc, if_neg hc]
    rfl
   ·rw [if_neg hs']
theorem tab_set {p a : List UInt8} {c : UInt8} {u : Nat} (h : u < p.length) (hc : c = p[u]) : (tab p a (a ++ [c]) (u + 1)).set (u + 1) ((cnt a (p.take (u + 1)) : Int) + (cnt a (p.take u) : Int)) = tab p a (a ++ [c]) u := by
 apply List.ext_getElem
 ·rw [List.length_set, tab_len, tab_len]
 ·intro s h1 h2
  rw [List.getElem_set, tab_at h2]
  by_cases hs : u + 1 = s
  ·subst hs
   rw [if_pos rfl, if_neg (by omega), take_one h, cnt_snoc, if_pos hc]
   omega
  ·rw [if_neg hs, tab_at]
   by_cases hs' : s ≤ u
   ·rw [if_pos hs', if_pos (by omega)]
   ·rw [if_neg hs', if_neg (by omega)]
theorem f20_in {F : Nat} {p a : List UInt8} {c : UInt8} {K : List Int → Option (Int × Int)} (hp : p.length ≤ 10) (ha : a.length ≤ 10) :
  ∀ (n t : Nat), t + 1 ≤ n → t ≤ p.length → f20_L1 F p (c.toNat : Int) K n ((t : Int), tab p a (a ++ [c]) t) = K (tab p a (a ++ [c]) 0)
 | 0, t, h, ht => absurd h (by omega)
 | n + 1, 0, h, ht => by
  unfold f20_L1
  simp only [Option.bind_some]
  rfl
 | n + 1, u + 1, h, ht => by
  unfold f20_L1
  simp only [Option.bind_some]
  rw [decide_eq_true (show (0 : Int) < ((u + 1 : Nat) : Int) by omega)]
  have w0 : IntKind.i64.wrap (((u + 1 : Nat) : Int) - 1) = (u : Int) := by
   rw [show ((u + 1 : Nat) : Int) - 1 = (u : Int) by omega]
   exact wrap64 (by omega) (by omega)
  have hu : u < p.length := by omega
  simp only [w0, gS_at hu, Option.bind_some]
  by_cases hc : c = p[u]
  ·rw [decide_eq_true (show ((p[u].toNat : Nat) : Int) = (c.toNat : Int) by rw [hc])]
   have g1 : gI (tab p a (a ++ [c]) (u + 1)) ((u + 1 : Nat) : Int) = some (cnt a (p.take (u + 1)) : Int) := by
    rw [gI_at (by rw [tab_len]; omega), tab_at, if_pos (by omega)]
   have g2 : gI (tab p a (a ++ [c]) (u + 1)) (u : Int) = some (cnt a (p.take u) : Int) := by
    rw [gI_at (by rw [tab_len]; omega), tab_at, if_pos (by omega)]
   have b1 := cnt_le a (p.take (u + 1))
   have b2 := cnt_le a (p.take u)
   have b3 : 2 ^ a.length ≤ 2 ^ 10 := Nat.pow_le_pow_right (by omega) ha
   have w1 : IntKind.i64.wrap ((cnt a (p.take (u + 1)) : Int) + (cnt a (p.take u) : Int)) = (cnt a (p.take (u + 1)) : Int) + (cnt a (p.take u) : Int) := wrap64 (by omega) (by omega)
   simp only [g1, g2, Option.bind_some, w1]
   rw [sI_at (by rw [tab_len]; omega), tab_set hu hc]
   exact f20_in hp ha n u (by omega) (by omega)
  ·have hn : ¬ ((p[u].toNat : Nat) : Int) = (c.toNat : Int) := fun h => hc (UInt8.toNat_inj.1 (by omega))
   rw [decide_eq_false hn, tab_same hu hc]
   exact f20_in hp ha n u (by omega) (by omega)
end Go.Proofs.Ytmnmfmghmenkkaa

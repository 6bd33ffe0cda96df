/-
  Both ways of a word and a part: the plain law.
  The number of the places and the first of them: the plain law.
  Errors, and two equal lists: the plain law.
  The number of ways: the plain law.
  The number of ways, all of it: the plain law.
  Conditions: none; definitions and lemmas.
-/
import Derived.Test.YtmnmfmghmenkkaaRef21
set_option linter.unusedSimpArgs false
set_option linter.unusedVariables false
namespace Go.Proofs.Ytmnmfmghmenkkaa
open Go.Abs Go.Pur
set_option maxRecDepth 100000
theorem gS_at {l : List UInt8} {k : Nat} (h : k < l.length) : gS l (k : Int) = some (l[k].toNat : Int) := by
 show gS l (Int.ofNat k) = _
 simp only [gS]
 rw [List.getElem?_eq_getElem h]
theorem gI_at {l : List Int} {k : Nat} (h : k < l.length) : gI l (k : Int) = some l[k] := by
 show gI l (Int.ofNat k) = _
 simp only [gI]
 rw [List.getElem?_eq_getElem h]
theorem sI_at {l : List Int} {k : Nat} {v : Int} (h : k < l.length) : sI l (k : Int) v = some (l.set k v) := by
 show sI l (Int.ofNat k) v = _
 simp only [sI]
 rw [show Nat.blt k l.length = true from Nat.ble_eq_true_of_le h]
def bothW (w p : List UInt8) : Int := if checkW w = 0 then checkW p else checkW w
theorem f57_run {w p : List UInt8} {F n : Nat} : f57_L0 F [w, p] 2 (fun _ => some 0) (n + 1 + 1 + 1) 0 = some (bothW w p) := by
 have w0 : IntKind.i64.wrap ((0 : Int) + 1) = 1 := by decide
 have w1 : IntKind.i64.wrap ((1 : Int) + 1) = 2 := by decide
 have g0 : gI [w, p] 0 = some w := rfl
 have g1 : gI [w, p] 1 = some p := rfl
 unfold f57_L0
 simp only [Option.bind_some, g0]
 rw [show decide ((0 : Int) < 2) = true from rfl]
 simp only []
 unfold bothW
 by_cases h : checkW w = 0
 ·rw [decide_eq_true h, if_pos h]
  simp only [w0]
  unfold f57_L0
  simp only [Option.bind_some, g1]
  rw [show decide ((1 : Int) < 2) = true from rfl]
  simp only []
  by_cases h2 : checkW p = 0
  ·rw [decide_eq_true h2, h2]
   simp only [w1]
   unfold f57_L0
   simp only [Option.bind_some]
   rw [show decide ((2 : Int) < 2) = false from rfl]
  ·rw [decide_eq_false h2]
 ·rw [decide_eq_false h, if_neg h]
end Go.Proofs.Ytmnmfmghmenkkaa
set_option linter.unusedSimpArgs false
set_option linter.unusedVariables false
namespace Go.Proofs.Ytmnmfmghmenkkaa
open Go.Abs Go.Pur
set_option maxRecDepth 100000
def cnt : List UInt8 → List UInt8 → Nat
 | _, [] => 1
 | [], _ :: _ => 0
 | c :: w, d :: p => (if c = d then cnt w p else 0) + cnt w (d :: p)
theorem cnt_nil {w : List UInt8} : cnt w [] = 1 := by cases w <;> rfl
theorem cnt_le : ∀ (w p : List UInt8), cnt w p ≤ 2 ^ w.length
 | w, [] => by rw [cnt_nil]; exact Nat.one_le_two_pow
 | [], _ :: _ => by simp [cnt]
 | c :: w, d :: p => by
  have h1 := cnt_le w p
  have h2 := cnt_le w (d :: p)
  rw [cnt, List.length_cons, Nat.pow_succ]
  split <;> omega
theorem cnt_snoc {c d : UInt8} : ∀ (w p : List UInt8), cnt (w ++ [c]) (p ++ [d]) = cnt w (p ++ [d]) + if c = d then cnt w p else 0
 | [], [] => by simp [cnt]
 | [], e :: p => by
  have h : ∀ l : List UInt8, cnt [] (l ++ [d]) = 0 := fun l => by cases l <;> rfl
  simp [cnt, h]
 | a :: w, [] => by
  have := cnt_snoc (c := c) (d := d) w []
  simp only [List.nil_append, List.cons_append, cnt, cnt_nil] at this ⊢
  omega
 | a :: w, e :: p => by
  have h1 := cnt_snoc (c := c) (d := d) w p
  have h2 := cnt_snoc (c := c) (d := d) w (e :: p)
  simp only [List.cons_append, cnt] at h1 h2 ⊢
  rw [h2]
  by_cases ha : a = e
  ·simp only [if_pos ha, h1]
   split <;> omega
  ·simp only [if_neg ha]
   split <;> omega
end Go.Proofs.Ytmnmfmghmenkkaa
set_option linter.unusedSimpArgs false
set_option linter.unusedVariables false
namespace Go.Proofs.Ytmnmfmghmenkkaa
open Go.Abs Go.Pur
set_option maxRecDepth 100000
end Go.Proofs.Ytmnmfmghmenkkaa
set_option linter.unusedSimpArgs false
set_option linter.unusedVariables false
namespace Go.Proofs.Ytmnmfmghmenkkaa
open Go.Abs Go.Pur
set_option maxRecDepth 100000
def tab (p a b : List UInt8) (t : Nat) : List Int := (List.range (p.length + 1)).map fun s => ((if s ≤ t then cnt a (p.take s) else cnt b (p.take s) : Nat) : Int)
theorem tab_len {p a b : List UInt8} {t : Nat} : (tab p a b t).length = p.length + 1 := by simp [tab]
theorem tab_at {p a b : List UInt8} {t s : Nat} (h : s < (tab p a b t).length) : (tab p a b t)[s] = ((if s ≤ t then cnt a (p.take s) else cnt b (p.take s) : Nat) : Int) := by simp [tab]
theorem take_one {p : List UInt8} {u : Nat} (h : u < p.length) : p.take (u + 1) = p.take u ++ [p[u]] := by
 rw [List.take_add_one, List.getElem?_eq_getElem h]
 rfl
theorem tab_same {p a : List UInt8} {c : UInt8} {u : Nat} (h : u < p.length) (hc : c ≠ p[u]) : tab p a (a ++ [c]) (u + 1) = tab p a (a ++ [c]) u := by
 apply List.ext_getElem
 ·rw [tab_len, tab_len]
 ·intro s h1 h2
  rw [tab_at h1, tab_at h2]
  by_cases hs : s ≤ u
  ·rw [if_pos hs, if_pos (by omega)]
  ·rw [if_neg hs]
   by_cases hs' : s ≤ u + 1
   ·obtain rfl : s = u + 1 := by omega
    rw [if_pos hs', take_one h, cnt_snoc, if_neg hc]
    rfl
   ·rw [if_neg hs']
theorem tab_set {p a : List UInt8} {c : UInt8} {u : Nat} (h : u < p.length) (hc : c = p[u]) : (tab p a (a ++ [c]) (u + 1)).set (u + 1) ((cnt a (p.take (u + 1)) : Int) + (cnt a (p.take u) : Int)) = tab p a (a ++ [c]) u := by
 apply List.ext_getElem
 ·rw [List.length_set, tab_len, tab_len]
 ·intro s h1 h2
  rw [List.getElem_set, tab_at h2]
  by_cases hs : u + 1 = s
  ·subst hs
   rw [if_pos rfl, if_neg (by omega), take_one h, cnt_snoc, if_pos hc]
   omega
  ·rw [if_neg hs, tab_at]
   by_cases hs' : s ≤ u
   ·rw [if_pos hs', if_pos (by omega)]
   ·rw [if_neg hs', if_neg (by omega)]
theorem f20_in {F : Nat} {p a : List UInt8} {c : UInt8} {K : List Int → Option (Int × Int)} (hp : p.length ≤ 10) (ha : a.length ≤ 10) :
  ∀ (n t : Nat), t + 1 ≤ n → t ≤ p.length → f20_L1 F p (c.toNat : Int) K n ((t : Int), tab p a (a ++ [c]) t) = K (tab p a (a ++ [c]) 0)
 | 0, t, h, ht => absurd h (by omega)
 | n + 1, 0, h, ht => by
  unfold f20_L1
  simp only [Option.bind_some]
  rfl
 | n + 1, u + 1, h, ht => by
  unfold f20_L1
  simp only [Option.bind_some]
  rw [decide_eq_true (show (0 : Int) < ((u + 1 : Nat) : Int) by omega)]
  have w0 : IntKind.i64.wrap (((u + 1 : Nat) : Int) - 1) = (u : Int) := by
   rw [show ((u + 1 : Nat) : Int) - 1 = (u : Int) by omega]
   exact wrap64 (by omega) (by omega)
  have hu : u < p.length := by omega
  simp only [w0, gS_at hu, Option.bind_some]
  by_cases hc : c = p[u]
  ·rw [decide_eq_true (show ((p[u].toNat : Nat) : Int) = (c.toNat : Int) by rw [hc])]
   have g1 : gI (tab p a (a ++ [c]) (u + 1)) ((u + 1 : Nat) : Int) = some (cnt a (p.take (u + 1)) : Int) := by
    rw [gI_at (by rw [tab_len]; omega), tab_at, if_pos (by omega)]
   have g2 : gI (tab p a (a ++ [c]) (u + 1)) (u : Int) = some (cnt a (p.take u) : Int) := by
    rw [gI_at (by rw [tab_len]; omega), tab_at, if_pos (by omega)]
   have b1 := cnt_le a (p.take (u + 1))
   have b2 := cnt_le a (p.take u)
   have b3 : 2 ^ a.length ≤ 2 ^ 10 := Nat.pow_le_pow_right (by omega) ha
   have w1 : IntKind.i64.wrap ((cnt a (p.take (u + 1)) : Int) + (cnt a (p.take u) : Int)) = (cnt a (p.take (u + 1)) : Int) + (cnt a (p.take u) : Int) := wrap64 (by omega) (by omega)
   simp only [g1, g2, Option.bind_some, w1]
   rw [sI_at (by rw [tab_len]; omega), tab_set hu hc]
   exact f20_in hp ha n u (by omega) (by omega)
  ·have hn : ¬ ((p[u].toNat : Nat) : Int) = (c.toNat : Int) := fun h => hc (UInt8.toNat_inj.1 (by omega))
   rw [decide_eq_false hn, tab_same hu hc]
   exact f20_in hp ha n u (by omega) (by omega)
end Go.Proofs.Ytmnmfmghmenkkaa
set_option linter.unusedSimpArgs false
set_option linter.unusedVariables false
namespace Go.Proofs.Ytmnmfmghmenkkaa
open Go.Abs Go.Pur
set_option maxRecDepth 100000
theorem tab_next {p a b c : List UInt8} : tab p a b 0 = tab p b c p.length := by
 apply List.ext_getElem
 ·rw [tab_len, tab_len]
 ·intro s h1 h2
  rw [tab_at h1, tab_at h2]
  have : s ≤ p.length := by rw [tab_len] at h1; omega
  rw [if_pos this]
  by_cases hs : s ≤ 0
  ·obtain rfl : s = 0 := by omega
   simp [cnt_nil]
  ·rw [if_neg hs]
theorem tab_first {p b : List UInt8} : (List.replicate (p.length + 1) (0 : Int)).set 0 1 = tab p [] b p.length := by
 apply List.ext_getElem
 ·rw [tab_len]; simp
 ·intro s h1 h2
  rw [tab_at h2]
  have : s ≤ p.length := by rw [tab_len] at h2; omega
  rw [if_pos this, List.getElem_set]
  cases s with
  | zero => simp [cnt_nil]
  | succ s =>
   rw [take_one (by omega), List.getElem_replicate]
   have : ∀ (l : List UInt8) (d : UInt8), cnt [] (l ++ [d]) = 0 := fun l d => by cases l <;> rfl
   rw [this]
   rfl
theorem f20_out {F : Nat} {w p : List UInt8} {x12 : List Int} {K : List Int → Option (Int × Int)} (hF : 12 ≤ F) (hw : w.length ≤ 10) (hp : p.length ≤ 10) (hx : x12 = w.map fun b => (b.toNat : Int)) :
  ∀ (n k : Nat), w.length + 1 ≤ n + k → k ≤ w.length → f20_L0 F p x12 w.length K n ((k : Int), tab p (w.take k) (w.take (k + 1)) p.length) = K (tab p w w p.length)
 | 0, k, h, hk => absurd h (by omega)
 | n + 1, k, h, hk => by
  unfold f20_L0
  simp only [Option.bind_some]
  by_cases hk' : k < w.length
  ·rw [decide_eq_true (show (k : Int) < (w.length : Int) by omega)]
   have hg : gI x12 (k : Int) = some (w[k].toNat : Int) := by
    rw [gI_at (by rw [hx, List.length_map]; exact hk')]
    simp [hx]
   have w1 : IntKind.i64.wrap ((k : Int) + 1) = ((k + 1 : Nat) : Int) := wrap_nat (by omega)
   simp only [hg, Option.bind_some]
   rw [take_one hk', f20_in hp (by rw [List.length_take]; omega) F p.length (by omega) (Nat.le_refl _)]
   simp only [w1]
   rw [tab_next (c := w.take (k + 1 + 1)), ← take_one hk']
   exact f20_out hF hw hp hx n (k + 1) (by omega) (by omega)
  ·obtain rfl : k = w.length := by omega
   rw [decide_eq_false (show ¬ (w.length : Int) < (w.length : Int) by omega)]
   simp only []
   rw [List.take_of_length_le (Nat.le_refl _), List.take_of_length_le (by omega)]
theorem f20_law {F : Nat} {w p : List UInt8} (hF : 12 ≤ F) (hw : w.length ≤ 10) (hp : p.length ≤ 10) (h0 : f57S F [w, p] = some 0) : f20S F w p = some ((cnt w p : Int), 0) := by
 unfold f20S
 rw [h0]
 have hb : bytO w = some (w.map fun b => (b.toNat : Int)) := by
  unfold bytO
  rw [show Nat.ble w.length 1000000 = true from Nat.ble_eq_true_of_le (by omega)]
 have w1 : IntKind.i64.wrap ((p.length : Int) + 1) = ((p.length + 1 : Nat) : Int) := wrap_nat (by omega)
 have hm : mkN ((p.length + 1 : Nat) : Int) = some (p.length + 1) := by
  show mkN (Int.ofNat (p.length + 1)) = _
  simp only [mkN]
  rw [show Nat.ble (p.length + 1) 1000000 = true from Nat.ble_eq_true_of_le (by omega)]
 have hn : gN (p.length + 1) = some () := by
  unfold gN
  rw [show Nat.ble (p.length + 1) 1000000 = true from Nat.ble_eq_true_of_le (by omega)]
 have h1 : gI (List.replicate (p.length + 1) (0 : Int)) 0 = some 0 := gI_at (k := 0) (by simp)
 have h2 : sI (List.replicate (p.length + 1) (0 : Int)) 0 1 = some (tab p (w.take 0) (w.take (0 + 1)) p.length) := by
  rw [List.take_zero, ← tab_first (b := w.take (0 + 1))]
  exact sI_at (k := 0) (by simp)
 simp only [Option.bind_some, decide_true, w1, hm, hn, h1, h2, hb, List.length_map]
 refine Eq.trans (f20_out hF hw hp rfl F 0 (by omega) (by omega)) ?_
 rw [gI_at (by rw [tab_len]; omega), tab_at, if_pos (Nat.le_refl _), List.take_of_length_le (Nat.le_refl _)]
 rfl
end Go.Proofs.Ytmnmfmghmenkkaa

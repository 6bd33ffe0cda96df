/-
  The number of ways, all of it: the plain law.
  Conditions: none; lemmas.
-/
import Derived.Test.YtmnmfmghmenkkaaLaw3d
set_option linter.unusedSimpArgs false
set_option linter.unusedVariables false
namespace Go.Proofs.Ytmnmfmghmenkkaa
open Go.Abs Go.Pur
set_option maxRecDepth 100000
theorem tab_next {p a b c : List UInt8} : tab p a b 0 = tab p b c p.length := by
 apply List.ext_getElem
 ·rw [tab_len, tab_len]
 ·intro s h1 h2
  rw [tab_at h1, tab_at h2]
  have : s ≤ p.length := by rw [tab_len] at h1; omega
  rw [if_pos this]
  by_cases hs : s ≤ 0
  ·obtain rfl : s = 0 := by omega
   simp [cnt_nil]
  ·rw [if_neg hs]
theorem tab_first {p b : List UInt8} : (List.replicate (p.length + 1) (0 : Int)).set 0 1 = tab p [] b p.length := by
 apply List.ext_getElem
 ·rw [tab_len]; simp
 ·intro s h1 h2
  rw [tab_at h2]
  have : s ≤ p.length := by rw [tab_len] at h2; omega
  rw [if_pos this, List.getElem_set]
  cases s with
  | zero => simp [cnt_nil]
  | succ s =>
   rw [take_one (by omega), List.getElem_replicate]
   have : ∀ (l : List UInt8) (d : UInt8), cnt [] (l ++ [d]) = 0 := fun l d => by cases l <;> rfl
   rw [this]
   rfl
theorem f20_out {F : Nat} {w p : List UInt8} {x12 : List Int} {K : List Int → Option (Int × Int)} (hF : 12 ≤ F) (hw : w.length ≤ 10) (hp : p.length ≤ 10) (hx : x12 = w.map fun b => (b.toNat : Int)) :
  ∀ (n k : Nat), w.length + 1 ≤ n + k → k ≤ w.length → f20_L0 F p x12 w.length K n ((k : Int), tab p (w.take k) (w.take (k + 1)) p.length) = K (tab p w w p.length)
 | 0, k, h, hk => absurd h (by omega)
 | n + 1, k, h, hk => by
  unfold f20_L0
  simp only [Option.bind_some]
  by_cases hk' : k < w.length
  ·rw [decide_eq_true (show (k : Int) < (w.length : Int) by omega)]
   have hg : gI x12 (k : Int) = some (w[k].toNat : Int) := by
    rw [gI_at (by rw [hx, List.length_map]; exact hk')]
    simp [hx]
   have w1 : IntKind.i64.wrap ((k : Int) + 1) = ((k + 1 : Nat) : Int) := wrap_nat (by omega)
   simp only [hg, Option.bind_some]
   rw [take_one hk', f20_in hp (by rw [List.length_take]; omega) F p.length (by omega) (Nat.le_refl _)]
   simp only [w1]
   rw [tab_next (c := w.take (k + 1 + 1)), ← take_one hk']
   exact f20_out hF hw hp hx n (k + 1) (by omega) (by omega)
  ·obtain rfl : k = w.length := by omega
   rw [decide_eq_false (show ¬ (w.length : Int) < (w.length : Int) by omega)]
   simp only []
   rw [List.take_of_length_le (Nat.le_refl _), List.take_of_length_le (by omega)]
theorem f20_law {F : Nat} {w p : List UInt8} (hF : 12 ≤ F) (hw : w.length ≤ 10) (hp : p.length ≤ 10) (h0 : f57S F [w, p] = some 0) : f20S F w p = some ((cnt w p : Int), 0) := by
 unfold f20S
 rw [h0]
 have hb : bytO w = some (w.map fun b => (b.toNat : Int)) := by
  unfold bytO
  rw [show Nat.ble w.length 1000000 = true from Nat.ble_eq_true_of_le (by omega)]
 have w1 : IntKind.i64.wrap ((p.length : Int) + 1) = ((p.length + 1 : Nat) : Int) := wrap_nat (by omega)
 have hm : mkN ((p.length + 1 : Nat) : Int) = some (p.length + 1) := by
  show mkN (Int.ofNat (p.length + 1)) = _
  simp only [mkN]
  rw [show Nat.ble (p.length + 1) 1000000 = true from Nat.ble_eq_true_of_le (by omega)]
 have hn : gN (p.length + 1) = some () := by
  unfold gN
  rw [show Nat.ble (p.length + 1) 1000000 = true from Nat.ble_eq_true_of_le (by omega)]
 have h1 : gI (List.replicate (p.length + 1) (0 : Int)) 0 = some 0 := gI_at (k := 0) (by simp)
 have h2 : sI (List.replicate (p.length + 1) (0 : Int)) 0 1 = some (tab p (w.take 0) (w.take (0 + 1)) p.length) := by
  rw [List.take_zero, ← tab_first (b := w.take (0 + 1))]
  exact sI_at (k := 0) (by simp)
 simp only [Option.bind_some, decide_true, w1, hm, hn, h1, h2, hb, List.length_map]
 refine Eq.trans (f20_out hF hw hp rfl F 0 (by omega) (by omega)) ?_
 rw [gI_at (by rw [tab_len]; omega), tab_at, if_pos (Nat.le_refl _), List.take_of_length_le (Nat.le_refl _)]
 rfl
end Go.Proofs.Ytmnmfmghmenkkaa

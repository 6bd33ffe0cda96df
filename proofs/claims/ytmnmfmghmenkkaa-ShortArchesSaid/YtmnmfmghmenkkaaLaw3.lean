/-
  Both ways of a word and a part: the plain law.
  Conditions: none; lemmas.
-/
import Derived.Test.YtmnmfmghmenkkaaRef21
set_option linter.unusedSimpArgs false
set_option linter.unusedVariables false
namespace Go.Proofs.Ytmnmfmghmenkkaa
open Go.Abs Go.Pur
set_option maxRecDepth 100000
theorem gS_at {l : List UInt8} {k : Nat} (h : k < l.length) : gS l (k : Int) = some (l[k].toNat : Int) := by
 show gS l (Int.ofNat k) = _
 simp only [gS]
 rw [List.getElem?_eq_getElem h]
theorem gI_at {l : List Int} {k : Nat} (h : k < l.length) : gI l (k : Int) = some l[k] := by
 show gI l (Int.ofNat k) = _
 simp only [gI]
 rw [List.getElem?_eq_getElem h]
theorem f16_law {l : List UInt8} : f16S 0 l = some (decide (60 < l.length)) := by
 unfold f16S
 simp only [Option.bind_some]
 congr 1
 by_cases h : 60 < l.length
 ·rw [decide_eq_true h, decide_eq_true (by omega)]
 ·rw [decide_eq_false h, decide_eq_false (by omega)]
theorem f26_run {p : List UInt8} {F : Nat} (hp : p.length ≤ 10) : ∀ (n k : Nat), p.length + 1 ≤ n + k → k ≤ p.length → f26_L0 F p (fun _ => some 0) n k = some (if (p.drop k).all letW then 0 else 10)
 | 0, k, h, hk => absurd h (by omega)
 | n + 1, k, h, hk => by
  unfold f26_L0
  simp only [Option.bind_some]
  by_cases hk' : k < p.length
  ·rw [decide_eq_true (show (k : Int) < (p.length : Int) by omega)]
   simp only [gS_at hk', Option.bind_some]
   rw [List.drop_eq_getElem_cons hk', List.all_cons]
   have hl : letW p[k] = (decide (97 ≤ p[k].toNat) && decide (p[k].toNat < 103)) := rfl
   by_cases h1 : p[k].toNat < 97
   ·rw [decide_eq_true (show (p[k].toNat : Int) < 97 by omega)]
    rw [hl, decide_eq_false (show ¬ 97 ≤ p[k].toNat by omega)]
    simp
   ·rw [decide_eq_false (show ¬ (p[k].toNat : Int) < 97 by omega)]
    by_cases h2 : 103 ≤ p[k].toNat
    ·rw [decide_eq_true (show (103 : Int) ≤ (p[k].toNat : Int) by omega)]
     rw [hl, decide_eq_false (show ¬ p[k].toNat < 103 by omega)]
     simp
    ·rw [decide_eq_false (show ¬ (103 : Int) ≤ (p[k].toNat : Int) by omega)]
     rw [hl, decide_eq_true (show p[k].toNat < 103 by omega), decide_eq_true (show 97 ≤ p[k].toNat by omega)]
     have w1 : IntKind.i64.wrap ((k : Int) + 1) = ((k + 1 : Nat) : Int) := wrap_nat (by omega)
     simp only [w1]
     rw [f26_run hp n (k + 1) (by omega) (by omega)]
     simp
  ·rw [decide_eq_false (show ¬ (k : Int) < (p.length : Int) by omega)]
   rw [List.drop_eq_nil_of_le (by omega)]
   simp
theorem f28_one {w p : List UInt8} {j : Nat} (hj : j < p.length) (hw : w.length ≤ 60) {F : Nat} {K : Int → Option Bool}
  (hK : ∀ i (h : i < w.length), w[i] = p[j] → K (i : Int) = some (leftW (w.drop (i + 1)) (p.drop (j + 1)))) (hE : K (w.length : Int) = some false) :
  ∀ (n i : Nat), w.length + 1 ≤ n + i → i ≤ w.length → f28_L1 F w p j K n i = some (leftW (w.drop i) (p.drop j))
 | 0, i, h, hi => absurd h (by omega)
 | n + 1, i, h, hi => by
  unfold f28_L1
  simp only [Option.bind_some]
  rw [List.drop_eq_getElem_cons hj]
  by_cases hi' : i < w.length
  ·rw [decide_eq_true (show (i : Int) < (w.length : Int) by omega)]
   simp only [gS_at hi', gS_at hj, Option.bind_some]
   rw [left_drop hi']
   by_cases hc : w[i] = p[j]
   ·rw [decide_eq_true (show ((w[i].toNat : Nat) : Int) = (p[j].toNat : Int) by rw [hc]), if_pos hc]
    exact hK i hi' hc
   ·have hn : ¬ ((w[i].toNat : Nat) : Int) = (p[j].toNat : Int) := fun h => hc (UInt8.toNat_inj.1 (by omega))
    rw [decide_eq_false hn, if_neg hc]
    have w1 : IntKind.i64.wrap ((i : Int) + 1) = ((i + 1 : Nat) : Int) := wrap_nat (by omega)
    simp only [w1]
    rw [f28_one hj hw hK hE n (i + 1) (by omega) (by omega), List.drop_eq_getElem_cons hj]
  ·obtain rfl : i = w.length := by omega
   rw [decide_eq_false (show ¬ (w.length : Int) < (w.length : Int) by omega)]
   simp only []
   rw [hE, List.drop_eq_nil_of_le (Nat.le_refl _)]
   rfl
theorem f28_run {w p : List UInt8} {F : Nat} (hF : 61 ≤ F) (hw : w.length ≤ 60) (hp : p.length ≤ 60) : ∀ (n i j : Nat), p.length + 1 ≤ n + j → i ≤ w.length → j ≤ p.length → f28_L0 F w p (fun _ => some true) n ((i : Int), (j : Int)) = some (leftW (w.drop i) (p.drop j))
 | 0, i, j, h, hi, hj => absurd h (by omega)
 | n + 1, i, j, h, hi, hj => by
  unfold f28_L0
  simp only [Option.bind_some]
  by_cases hj' : j < p.length
  ·rw [decide_eq_true (show (j : Int) < (p.length : Int) by omega)]
   refine f28_one hj' hw ?_ ?_ F i (by omega) hi
   ·intro i' h' hc
    rw [decide_eq_false (show ¬ (i' : Int) = (w.length : Int) by omega)]
    have w1 : IntKind.i64.wrap ((i' : Int) + 1) = ((i' + 1 : Nat) : Int) := wrap_nat (by omega)
    have w2 : IntKind.i64.wrap ((j : Int) + 1) = ((j + 1 : Nat) : Int) := wrap_nat (by omega)
    simp only [w1, w2]
    exact f28_run hF hw hp n (i' + 1) (j + 1) (by omega) (by omega) (by omega)
   ·simp
  ·rw [decide_eq_false (show ¬ (j : Int) < (p.length : Int) by omega)]
   rw [show p.drop j = [] from List.drop_eq_nil_of_le (by omega), left_nil]
theorem f28_any {w p : List UInt8} {F : Nat} (hF : 61 ≤ F) (hw : w.length ≤ 60) (hp : p.length ≤ 60) : f28S F w p = some (leftW w p) := by
 have := f28_run hF hw hp F 0 0 (by omega) (by omega) (by omega)
 simpa [f28S] using this
end Go.Proofs.Ytmnmfmghmenkkaa

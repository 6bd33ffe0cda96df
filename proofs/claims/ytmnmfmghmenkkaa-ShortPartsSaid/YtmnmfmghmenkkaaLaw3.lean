/-
  Both ways of a word and a part: the plain law.
  Conditions: none; lemmas.
-/
import Derived.Test.YtmnmfmghmenkkaaRef21
set_option linter.unusedSimpArgs false
set_option linter.unusedVariables false
namespace Go.Proofs.Ytmnmfmghmenkkaa
open Go.Abs Go.Pur
set_option maxRecDepth 100000
theorem gS_at {l : List UInt8} {k : Nat} (h : k < l.length) : gS l (k : Int) = some (l[k].toNat : Int) := by
 show gS l (Int.ofNat k) = _
 simp only [gS]
 rw [List.getElem?_eq_getElem h]
theorem f16_law {l : List UInt8} : f16S 0 l = some (decide (60 < l.length)) := by
 unfold f16S
 simp only [Option.bind_some]
 congr 1
 by_cases h : 60 < l.length
 ·rw [decide_eq_true h, decide_eq_true (by omega)]
 ·rw [decide_eq_false h, decide_eq_false (by omega)]
theorem f26_run {p : List UInt8} {F : Nat} (hp : p.length ≤ 10) : ∀ (n k : Nat), p.length + 1 ≤ n + k → k ≤ p.length → f26_L0 F p (fun _ => some 0) n k = some (if (p.drop k).all letW then 0 else 10)
 | 0, k, h, hk => absurd h (by omega)
 | n + 1, k, h, hk => by
  unfold f26_L0
  simp only [Option.bind_some]
  by_cases hk' : k < p.length
  ·rw [decide_eq_true (show (k : Int) < (p.length : Int) by omega)]
   simp only [gS_at hk', Option.bind_some]
   rw [List.drop_eq_getElem_cons hk', List.all_cons]
   have hl : letW p[k] = (decide (97 ≤ p[k].toNat) && decide (p[k].toNat < 103)) := rfl
   by_cases h1 : p[k].toNat < 97
   ·rw [decide_eq_true (show (p[k].toNat : Int) < 97 by omega)]
    rw [hl, decide_eq_false (show ¬ 97 ≤ p[k].toNat by omega)]
    simp
   ·rw [decide_eq_false (show ¬ (p[k].toNat : Int) < 97 by omega)]
    by_cases h2 : 103 ≤ p[k].toNat
    ·rw [decide_eq_true (show (103 : Int) ≤ (p[k].toNat : Int) by omega)]
     rw [hl, decide_eq_false (show ¬ p[k].toNat < 103 by omega)]
     simp
    ·rw [decide_eq_false (show ¬ (103 : Int) ≤ (p[k].toNat : Int) by omega)]
     rw [hl, decide_eq_true (show p[k].toNat < 103 by omega), decide_eq_true (show 97 ≤ p[k].toNat by omega)]
     have w1 : IntKind.i64.wrap ((k : Int) + 1) = ((k + 1 : Nat) : Int) := wrap_nat (by omega)
     simp only [w1]
     rw [f26_run hp n (k + 1) (by omega) (by omega)]
     simp
  ·rw [decide_eq_false (show ¬ (k : Int) < (p.length : Int) by omega)]
   rw [List.drop_eq_nil_of_le (by omega)]
   simp
end Go.Proofs.Ytmnmfmghmenkkaa

/-
  ShortBack: opposite words, and first places.
  Conditions: none; lemmas.
-/
import Derived.Test.YtmnmfmghmenkkaaBridgeLaw
import Derived.Test.YtmnmfmghmenkkaaLaw3
import Derived.Test.YtmnmfmghmenkkaaBack15
set_option linter.unusedSimpArgs false
set_option linter.unusedVariables false
namespace Go.Proofs.Ytmnmfmghmenkkaa
open Go.Abs Go.Pur
set_option maxRecDepth 100000
theorem cnt_masks {w : List UInt8} : ∀ {k : Nat}, k ≤ w.length → ∀ {p : List UInt8}, ((List.range (2 ^ k)).filter fun M => decide (tk M.testBit w k = p)).length = cnt (w.take k) p
 | 0, _, p => by
  cases p with
  | nil => simp [tk, cnt]
  | cons d p => simp [tk, cnt]
 | k + 1, hk, p => by
  have hwk : w[k]? = some w[k] := List.getElem?_eq_getElem (by omega)
  have h1 : (List.range (2 ^ k)).filter (fun M => decide (tk M.testBit w (k + 1) = p)) = (List.range (2 ^ k)).filter (fun M => decide (tk M.testBit w k = p)) := by
   refine List.filter_congr fun M hM => ?_
   rw [tk, Nat.testBit_lt_two_pow (List.mem_range.1 hM)]
   simp
  have h2 : ∀ M, M < 2 ^ k → tk (2 ^ k + M).testBit w (k + 1) = tk M.testBit w k ++ [w[k]] := fun M hM => by
   rw [tk, Nat.testBit_two_pow_add_eq, Nat.testBit_lt_two_pow hM, tk_congr (g := M.testBit) (fun j hj => Nat.testBit_two_pow_add_gt hj M), hwk]
   rfl
  have h3 : ((List.range (2 ^ k)).map (2 ^ k + ·)).filter (fun M => decide (tk M.testBit w (k + 1) = p)) = ((List.range (2 ^ k)).filter (fun M => decide (tk M.testBit w k ++ [w[k]] = p))).map (2 ^ k + ·) := by
   rw [List.filter_map]
   congr 1
   refine List.filter_congr fun M hM => ?_
   simp only [Function.comp_def]
   rw [h2 M (List.mem_range.1 hM)]
  rw [Nat.pow_succ, Nat.mul_two, List.range_add, List.filter_append, List.length_append, h1, h3, List.length_map, cnt_masks (by omega), List.take_add_one, hwk, Option.toList_some]
  rcases List.eq_nil_or_concat p with rfl | ⟨q, d, rfl⟩
  ·rw [cnt_nil, cnt_nil]
   have : (List.range (2 ^ k)).filter (fun M => decide (tk M.testBit w k ++ [w[k]] = [])) = [] := by
    rw [List.filter_eq_nil_iff]
    intro M _
    simp
   rw [this]; rfl
  ·rw [List.concat_eq_append, cnt_snoc]
   congr 1
   by_cases hc : w[k] = d
   ·rw [if_pos hc, ← cnt_masks (w := w) (k := k) (by omega)]
    congr 1
    refine List.filter_congr fun M _ => ?_
    subst hc
    rw [decide_eq_decide]
    exact ⟨fun e => List.append_cancel_right e, fun e => by rw [e]⟩
   ·rw [if_neg hc]
    have : (List.range (2 ^ k)).filter (fun M => decide (tk M.testBit w k ++ [w[k]] = q ++ [d])) = [] := by
     rw [List.filter_eq_nil_iff]
     intro M _
     simp only [decide_eq_true_eq]
     intro e
     have := List.append_inj_right' e rfl
     exact hc (by simpa using this)
    rw [this]; rfl
theorem prtM_cnt {w p : List UInt8} : mGetD 0 p (prtM w (2 ^ w.length)).1 = (cnt w p : Int) := by
 rw [prtM_get]
 have := cnt_masks (w := w) (k := w.length) (Nat.le_refl _) (p := p)
 rw [List.take_length] at this
 rw [← this]
 rfl
theorem f57_any {w p : List UInt8} {F : Nat} (hF : 3 ≤ F) : f57S F [w, p] = some (bothW w p) := by
 obtain ⟨n, rfl⟩ : ∃ n, F = n + 1 + 1 + 1 := ⟨F - 3, by omega⟩
 exact f57_run
theorem f57_ok {w p : List UInt8} {F : Nat} (hF : 3 ≤ F) (hw : checkW w = 0) (hp : checkW p = 0) : f57S F [w, p] = some 0 := by
 rw [f57_any hF]
 unfold bothW
 rw [if_pos hw, hp]
end Go.Proofs.Ytmnmfmghmenkkaa

/-
  Arches: what the functions compute.
  The first of the shortest words that are missing: what the functions compute.
  Conditions: none; definitions and lemmas.
-/
import Derived.Test.YtmnmfmghmenkkaaMath5
import Derived.Test.YtmnmfmghmenkkaaLaw5
import Derived.Test.YtmnmfmghmenkkaaLaw3
set_option linter.unusedSimpArgs false
set_option linter.unusedVariables false
namespace Go.Proofs.Ytmnmfmghmenkkaa
open Go.Abs Go.Pur
set_option maxRecDepth 100000
theorem mSet_keys {K V : Type} [DecidableEq K] {c : Nat} {k : K} {v : V} : ∀ {l : Mp K V}, (mSet c k v l).map (·.1) = if k ∈ l.map (·.1) then l.map (·.1) else l.map (·.1) ++ [k]
 | [] => rfl
 | e :: l => by
  unfold mSet
  by_cases h : e.1 = k
  ·rw [decide_eq_true h]
   simp [h]
  ·rw [decide_eq_false h]
   simp only [List.map_cons, mSet_keys (l := l), List.mem_cons]
   by_cases h2 : k ∈ l.map (·.1)
   ·rw [if_pos h2, if_pos (.inr h2)]
   ·rw [if_neg h2, if_neg (fun e' => e'.elim (fun e' => h e'.symm) h2)]; rfl
end Go.Proofs.Ytmnmfmghmenkkaa
set_option linter.unusedSimpArgs false
set_option linter.unusedVariables false
namespace Go.Proofs.Ytmnmfmghmenkkaa
open Go.Abs Go.Pur
set_option maxRecDepth 100000
def ints (w : List UInt8) : List Int := w.map fun b => (b.toNat : Int)
theorem ints_at {w : List UInt8} {i : Nat} (h : i < w.length) : gI (ints w) (i : Int) = some (w[i].toNat : Int) := by
 rw [gI_at (by simpa [ints] using h)]
 simp [ints]
theorem f68_run {w : List UInt8} {c : UInt8} {F : Nat} (hw : w.length ≤ 1000) : ∀ (n i : Nat), w.length + 1 ≤ n + i → i ≤ w.length →
  (bhd (w.drop i) c = none → f68_L0 F (ints w) (c.toNat : Int) (w.length : Int) (fun _ => some (-1)) n i = some (-1)) ∧
  ∀ w', bhd (w.drop i) c = some w' → ∃ j, j < w.length ∧ w' = w.drop (j + 1) ∧ f68_L0 F (ints w) (c.toNat : Int) (w.length : Int) (fun _ => some (-1)) n i = some (j : Int)
 | 0, i, h, hi => absurd h (by omega)
 | n + 1, i, h, hi => by
  unfold f68_L0
  simp only [Option.bind_some]
  by_cases hi' : i < w.length
  ·rw [decide_eq_true (show (i : Int) < (w.length : Int) by omega)]
   simp only [ints_at hi', Option.bind_some]
   rw [List.drop_eq_getElem_cons hi', bhd]
   by_cases hc : w[i] = c
   ·rw [if_pos hc, decide_eq_true (show (c.toNat : Int) = (w[i].toNat : Int) by rw [hc])]
    exact ⟨fun e => (by cases e), fun w' e => ⟨i, hi', (Option.some.inj e).symm, rfl⟩⟩
   ·have hn : ¬ (c.toNat : Int) = (w[i].toNat : Int) := fun e => hc (UInt8.toNat_inj.1 (by omega))
    rw [if_neg hc, decide_eq_false hn]
    simp only []
    rw [wrap_nat (by omega)]
    exact f68_run hw n (i + 1) (by omega) (by omega)
  ·rw [decide_eq_false (show ¬ (i : Int) < (w.length : Int) by omega), List.drop_eq_nil_of_le (by omega)]
   exact ⟨fun _ => rfl, fun w' e => by cases e⟩
theorem f68_law {w : List UInt8} {c : UInt8} {F : Nat} (hw : w.length ≤ 1000) (hF : w.length + 1 ≤ F) :
  (bhd w c = none → f68S F (ints w) (c.toNat : Int) = some (-1)) ∧ ∀ w', bhd w c = some w' → ∃ j, j < w.length ∧ w' = w.drop (j + 1) ∧ f68S F (ints w) (c.toNat : Int) = some (j : Int) := by
 have hl : (ints w).length = w.length := by simp [ints]
 have := f68_run (w := w) (c := c) (F := F) hw F 0 (by omega) (by omega)
 unfold f68S
 rw [hl]
 simpa using this
theorem lets_at {k j : Nat} (h : j < k) : (lets k)[j]'(by rw [lets_len]; exact h) = UInt8.ofNat (97 + j) := by simp [lets]
theorem subF_at {w : List UInt8} {j : Nat} (h : j ≤ w.length) : subF w (j : Int) = some (w.drop j) := by
 show subF w (Int.ofNat j) = _
 simp only [subF]
 rw [Nat.ble_eq_true_of_le h]
end Go.Proofs.Ytmnmfmghmenkkaa

/-
  QuirePairs: all folds by numbers.
  Conditions: none; lemmas.
-/
import Derived.Test.YtcjephdjemapbaaDoorPairsAll
import Derived.Test.YtcjephdjemapbaaDoorStripTab0
set_option linter.unusedSimpArgs false
set_option linter.unusedVariables false
namespace Go.Proofs.YtcjephdjemapbaaDoor
open Go.Abs Go.Pur
set_option maxRecDepth 100000
theorem num_tab : (List.range 7).all (fun k => (strs k).all fun s => beqS (foldedL k (numOf s)) s && Nat.blt (numOf s) 256) = true := by kernel_rfl
theorem check_folded {k y : Nat} (hk : k ≤ 6) : checkE (foldedL k y) = 0 := by
  unfold checkE lettersE
  rw [if_neg (by simp [foldedL]; omega), if_pos]
  rw [List.all_eq_true]
  intro c hc
  obtain ⟨i, _, rfl⟩ := List.mem_map.1 hc
  split <;> rfl
/-- Folds by numbers: the same folds by the numbers of their letters. -/
theorem folded_num {m y : Nat} (hm : m < 256) (hy : y < 256) : ∃ s, checkE s = 0 ∧ foldedO (m : Int) (y : Int) = some s ∧ foldedO (s.length : Int) (numOf s : Int) = some s := by
  have hk : m % 7 < 7 := Nat.mod_lt _ (by decide)
  have hl : (foldedL (m % 7) y).length = m % 7 := by simp [foldedL]
  have t := List.all_eq_true.1 (List.all_eq_true.1 num_tab (m % 7) (List.mem_range.2 hk)) _ (foldedL_mem (k := m % 7) (y := y))
  simp only [Bool.and_eq_true] at t
  refine ⟨foldedL (m % 7) y, check_folded (by omega), foldedO_at hm hy, ?_⟩
  rw [hl, foldedO_at (by omega) (Nat.le_of_ble_eq_true t.2), Nat.mod_mod, beqS_ok t.1]
theorem pairs_law {m y : Nat} (hm : m < 256) (hy : y < 256) : f11S fuel (m : Int) (y : Int) = some true := by
  obtain ⟨s, h0, h1, h2⟩ := folded_num hm hy
  have h := okP_all h0
  have e : f11S fuel (m : Int) (y : Int) = f11S fuel (s.length : Int) (numOf s : Int) := by
    unfold f11S
    rw [h1, h2]
  rw [e]
  unfold okP at h
  revert h
  cases f11S fuel (s.length : Int) (numOf s : Int) with
  | none => intro h; cases h
  | some b =>
    cases b with
    | true => intro _; rfl
    | false => intro h; cases h
theorem quirePairs_is {m y : Nat} (hm : m < 256) (hy : y < 256) : E Tryd.prog Y0 11 [.v (.int .u8 m), .v (.int .u8 y)] [] = some (.v (.bool true), [], none) := f11_is (pairs_law hm hy)
end Go.Proofs.YtcjephdjemapbaaDoor

/-
  ShortMost: the word with the most parts.
  Conditions: none; lemmas.
-/
import Derived.Test.YtmnmfmghmenkkaaMathP
import Derived.Test.YtmnmfmghmenkkaaMathG
import Derived.Test.YtmnmfmghmenkkaaMost11
set_option linter.unusedSimpArgs false
set_option linter.unusedVariables false
namespace Go.Proofs.Ytmnmfmghmenkkaa
open Go.Abs Go.Pur
set_option maxRecDepth 100000
theorem cyc_snoc {k : Nat} : ∀ {n i : Nat}, cyc k i (n + 1) = cyc k i n ++ [cyL k (i + n)]
 | 0, i => rfl
 | n + 1, i => by
  rw [cyc, cyc_snoc, cyc, List.cons_append, show i + 1 + n = i + (n + 1) by omega]
theorem cyc_check {k n : Nat} (hk0 : 0 < k) (hk : k ≤ 6) (hn : n ≤ 10) : checkW (cyc k 0 n) = 0 :=
 checkW_ok (by rw [cyc_len]; exact hn) fun c hc => lets_up hk (cyc_mem hk0 c hc)
theorem f33_run {k n : Nat} {F : Nat} (hk0 : 0 < k) (hk : k ≤ 6) (hn : n ≤ 10) {K : List Int → Option (Int × Int)} : ∀ (m v : Nat), n + 1 ≤ m + v → v ≤ n → f33_L0 F (k : Int) (n : Int) K m (ints (cyc k 0 v), (v : Int)) = K (ints (cyc k 0 n))
 | 0, v, h, hv => absurd h (by omega)
 | m + 1, v, h, hv => by
  rw [f33_L0]
  simp only [Option.bind_some]
  by_cases hv' : v < n
  ·rw [decide_eq_true (show (v : Int) < (n : Int) by omega)]
   simp only []
   unfold remO
   rw [decide_eq_false (show ¬ (k : Int) = 0 by omega), tmod_nat]
   have h2 : v % k < 6 := Nat.lt_of_lt_of_le (Nat.mod_lt v hk0) hk
   simp only [Option.bind_some]
   rw [wrap64 (z := 97 + ((v % k : Nat) : Int)) (by omega) (by omega), wrap8 (by omega) (by omega)]
   rw [ints_app (c := cyL k v) (by unfold cyL; exact let_nat h2) (by rw [cyc_len]; omega)]
   simp only [Option.bind_some]
   rw [wrap_nat (by omega), show cyc k 0 v ++ [cyL k v] = cyc k 0 (v + 1) by rw [cyc_snoc, Nat.zero_add]]
   exact f33_run hk0 hk hn m (v + 1) (by omega) (by omega)
  ·obtain rfl : v = n := by omega
   rw [decide_eq_false (by omega)]
theorem f33_law {k n : Nat} {F : Nat} (hF : 12 ≤ F) (hk0 : 0 < k) (hk : k ≤ 6) (hn : n ≤ 10) : f33S F (k : Int) (n : Int) = some ((dl (cyc k 0 n) : Int), 0) := by
 unfold f33S
 simp only [Option.bind_some]
 rw [decide_eq_false (by omega), decide_eq_false (by omega), decide_eq_false (by omega), decide_eq_false (by omega)]
 simp only []
 rw [show (([] : List Int), (0 : Int)) = (ints (cyc k 0 0), ((0 : Nat) : Int)) from rfl, f33_run (F := F) hk0 hk hn F 0 (by omega) (by omega), bytesN_ints, f29_law (cyc_check hk0 hk hn) hF]
 rfl
end Go.Proofs.Ytmnmfmghmenkkaa

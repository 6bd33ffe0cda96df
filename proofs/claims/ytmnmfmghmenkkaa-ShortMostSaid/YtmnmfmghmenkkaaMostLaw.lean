/-
  ShortMost: the word with the most parts.
  Conditions: none; lemmas.
-/
import Derived.Test.YtmnmfmghmenkkaaMathP
import Derived.Test.YtmnmfmghmenkkaaMathG
import Derived.Test.YtmnmfmghmenkkaaMost11
set_option linter.unusedSimpArgs false
set_option linter.unusedVariables false
namespace Go.Proofs.Ytmnmfmghmenkkaa
open Go.Abs Go.Pur
set_option maxRecDepth 100000
theorem cyc_snoc {k : Nat} : ∀ {n i : Nat}, cyc k i (n + 1) = cyc k i n ++ [cyL k (i + n)]
 | 0, i => rfl
 | n + 1, i => by
  rw [cyc, cyc_snoc, cyc, List.cons_append, show i + 1 + n = i + (n + 1) by omega]
theorem cyL_get {k i : Nat} (hk0 : 0 < k) (hk : k ≤ 6) : ([97, 98, 99, 100, 101, 102] : List UInt8)[i % k]? = some (cyL k i) := by
 unfold cyL
 have h := Nat.mod_lt i hk0
 generalize i % k = j at h
 have hj : j < 6 := by omega
 match j, hj with
 | 0, _ | 1, _ | 2, _ | 3, _ | 4, _ | 5, _ => rfl
theorem f11_run {k n : Nat} {F : Nat} (hk0 : 0 < k) (hk : k ≤ 6) (hn : n ≤ 10) {K : List UInt8 → Option Bool} : ∀ (m v : Nat), n + 1 ≤ m + v → v ≤ n → f11_L0 F (k : Int) (n : Int) K m (cyc k 0 v, (v : Int)) = K (cyc k 0 n)
 | 0, v, h, hv => absurd h (by omega)
 | m + 1, v, h, hv => by
  rw [f11_L0]
  simp only [Option.bind_some]
  by_cases hv' : v < n
  ·rw [decide_eq_true (show (v : Int) < (n : Int) by omega)]
   simp only []
   unfold remO
   rw [decide_eq_false (show ¬ (k : Int) = 0 by omega), tmod_nat]
   have h2 : v % k < 6 := Nat.lt_of_lt_of_le (Nat.mod_lt v hk0) hk
   simp only [Option.bind_some]
   rw [wrap_nat (by omega), sub_one (w := [97, 98, 99, 100, 101, 102]) (i := v % k) h2]
   simp only [Option.bind_some]
   rw [sadd_at (by rw [cyc_len]; simp; omega)]
   simp only [Option.bind_some]
   have h3 : ([97, 98, 99, 100, 101, 102] : List UInt8)[v % k] = cyL k v := by
    have := cyL_get (i := v) hk0 hk
    rw [List.getElem?_eq_getElem h2] at this
    exact Option.some.inj this
   rw [h3, wrap_nat (by omega), show cyc k 0 v ++ [cyL k v] = cyc k 0 (v + 1) by rw [cyc_snoc, Nat.zero_add]]
   exact f11_run hk0 hk hn m (v + 1) (by omega) (by omega)
  ·obtain rfl : v = n := by omega
   rw [decide_eq_false (by omega)]
theorem cyc_check {k n : Nat} (hk0 : 0 < k) (hk : k ≤ 6) (hn : n ≤ 10) : checkW (cyc k 0 n) = 0 :=
 checkW_ok (by rw [cyc_len]; exact hn) fun c hc => lets_up hk (cyc_mem hk0 c hc)
theorem f33_run {k n : Nat} {F : Nat} (hk0 : 0 < k) (hk : k ≤ 6) (hn : n ≤ 10) {K : List Int → Option (Int × Int)} : ∀ (m v : Nat), n + 1 ≤ m + v → v ≤ n → f33_L0 F (k : Int) (n : Int) K m (ints (cyc k 0 v), (v : Int)) = K (ints (cyc k 0 n))
 | 0, v, h, hv => absurd h (by omega)
 | m + 1, v, h, hv => by
  rw [f33_L0]
  simp only [Option.bind_some]
  by_cases hv' : v < n
  ·rw [decide_eq_true (show (v : Int) < (n : Int) by omega)]
   simp only []
   unfold remO
   rw [decide_eq_false (show ¬ (k : Int) = 0 by omega), tmod_nat]
   have h2 : v % k < 6 := Nat.lt_of_lt_of_le (Nat.mod_lt v hk0) hk
   simp only [Option.bind_some]
   rw [wrap64 (z := 97 + ((v % k : Nat) : Int)) (by omega) (by omega), wrap8 (by omega) (by omega)]
   rw [ints_app (c := cyL k v) (by unfold cyL; exact let_nat h2) (by rw [cyc_len]; omega)]
   simp only [Option.bind_some]
   rw [wrap_nat (by omega), show cyc k 0 v ++ [cyL k v] = cyc k 0 (v + 1) by rw [cyc_snoc, Nat.zero_add]]
   exact f33_run hk0 hk hn m (v + 1) (by omega) (by omega)
  ·obtain rfl : v = n := by omega
   rw [decide_eq_false (by omega)]
theorem f33_law {k n : Nat} {F : Nat} (hF : 12 ≤ F) (hk0 : 0 < k) (hk : k ≤ 6) (hn : n ≤ 10) : f33S F (k : Int) (n : Int) = some ((dl (cyc k 0 n) : Int), 0) := by
 unfold f33S
 simp only [Option.bind_some]
 rw [decide_eq_false (by omega), decide_eq_false (by omega), decide_eq_false (by omega), decide_eq_false (by omega)]
 simp only []
 rw [show (([] : List Int), (0 : Int)) = (ints (cyc k 0 0), ((0 : Nat) : Int)) from rfl, f33_run (F := F) hk0 hk hn F 0 (by omega) (by omega), bytesN_ints, f29_law (cyc_check hk0 hk hn) hF]
 rfl
theorem f11_law {l : List Int} (hl : l.length = 11) {a b c d e f g h i j k : Int} (he : l = [a, b, c, d, e, f, g, h, i, j, k]) (hb : ∀ z ∈ l, byteI z) {p : Int} (hp : byteI p) {F : Nat} (hF : 1100 ≤ F) : f11S F a b c d e f g h i j k p = some true := by
 obtain ⟨R, rfl⟩ : ∃ R : Nat, p = R := ⟨p.toNat, (Int.toNat_of_nonneg hp.1).symm⟩
 obtain ⟨q, hq, hq1, hq6⟩ : ∃ q : Nat, R % 6 + 1 = q ∧ 0 < q ∧ q ≤ 6 := ⟨_, rfl, by omega, by have := Nat.mod_lt R (show 0 < 6 by omega); omega⟩
 unfold f11S
 rw [← he]
 simp only [Option.bind_some]
 rw [wrap64 (z := (R : Int)) (by omega) (by have := hp.2; omega), show (6 : Int) = ((6 : Nat) : Int) from rfl, tmod_nat, show IntKind.i64.wrap (1 + ((R % 6 : Nat) : Int)) = (q : Int) by rw [wrap64 (by omega) (by omega)]; omega]
 obtain ⟨w, hw, hwl, hwm⟩ := made_law hl hb (n := 10) (k := q) (by omega) (by omega) (by omega)
 rw [show (10 : Int) = ((10 : Nat) : Int) from rfl, hw]
 simp only [Option.bind_some]
 rw [show (([] : List UInt8), (0 : Int)) = (cyc q 0 0, ((0 : Nat) : Int)) from rfl, f11_run hq1 hq6 hwl F 0 (by omega) (by omega), f29_law (checkW_ok hwl fun c hc => lets_up hq6 (hwm c hc)) (by omega), f29_law (cyc_check hq1 hq6 hwl) (by omega), f33_law (by omega) hq1 hq6 hwl, f50_law (by rw [cyc_len]; exact hwl) hF]
 simp only [Option.bind_some, decide_true]
 rw [prtM_len, decide_eq_true (show (dl w : Int) ≤ (dl (cyc q 0 w.length) : Int) from Int.ofNat_le.2 (most hq1 hq6 hwm))]
 simp only [Option.bind_some, decide_true]
end Go.Proofs.Ytmnmfmghmenkkaa

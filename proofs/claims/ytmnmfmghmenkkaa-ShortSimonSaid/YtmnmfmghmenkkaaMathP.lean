/-
  What the functions compute: how many parts.
  Words by numbers: what made, sized and taken answer.
  Parts by sets of letters.
  Conditions: none; definitions and lemmas.
-/
import Derived.Test.YtmnmfmghmenkkaaMathC
import Derived.Test.YtmnmfmghmenkkaaLaw5b
import Derived.Test.YtmnmfmghmenkkaaCount1
import Derived.Test.YtmnmfmghmenkkaaKnown1
import Derived.Test.YtmnmfmghmenkkaaParts50
set_option linter.unusedSimpArgs false
set_option linter.unusedVariables false
namespace Go.Proofs.Ytmnmfmghmenkkaa
open Go.Abs Go.Pur
set_option maxRecDepth 100000
theorem mGet_set {K V : Type} [DecidableEq K] {c : Nat} {k k' : K} {v : V} : ∀ {l : Mp K V}, mGet k (mSet c k' v l) = if k' = k then some v else mGet k l
 | [] => by
  simp only [mSet, mGet]
  by_cases h : k' = k
  ·rw [decide_eq_true h, if_pos h]
  ·rw [decide_eq_false h, if_neg h]
 | e :: l => by
  rw [mSet]
  by_cases h1 : e.1 = k'
  ·rw [decide_eq_true h1]
   simp only [mGet]
   by_cases h : k' = k
   ·rw [decide_eq_true h, if_pos h]
   ·rw [decide_eq_false h, if_neg h, decide_eq_false (show ¬ e.1 = k by rw [h1]; exact h)]
  ·rw [decide_eq_false h1]
   simp only [mGet, mGet_set (l := l)]
   by_cases h : k' = k
   ·subst h
    rw [decide_eq_false h1]
   ·rw [if_neg h, if_neg h]
end Go.Proofs.Ytmnmfmghmenkkaa
set_option linter.unusedSimpArgs false
set_option linter.unusedVariables false
namespace Go.Proofs.Ytmnmfmghmenkkaa
open Go.Abs Go.Pur
set_option maxRecDepth 100000
def byteI (z : Int) : Prop := 0 ≤ z ∧ z ≤ 255
theorem tmod_nat {a b : Nat} : Int.tmod (a : Int) (b : Int) = ((a % b : Nat) : Int) := by
 rw [Int.tmod_eq_emod_of_nonneg (by omega)]
 simp
theorem bysV_ints : ∀ {l : List Int}, (∀ z ∈ l, byteI z) → bysV (l.map (Value.int .u8)) = some (l.map fun z => z.toNat.toUInt8)
 | [], _ => rfl
 | z :: l, h => by
  obtain ⟨h0, h1⟩ := h z List.mem_cons_self
  obtain ⟨c, rfl⟩ : ∃ c : Nat, z = Int.ofNat c := ⟨z.toNat, (Int.toNat_of_nonneg h0).symm⟩
  have hc : Nat.blt c 256 = true := Nat.ble_eq_true_of_le (by simp at h1; omega)
  simp only [List.map_cons, bysV, byV, hc, bysV_ints (fun y hy => h y (List.mem_cons_of_mem _ hy))]
  rfl
theorem lt_mem {k : Nat} (h1 : 1 ≤ k) (h6 : k ≤ 6) {c : UInt8} : lt k c ∈ lets k := by
 rw [lets_mem h6]
 unfold lt
 rw [tmod_nat, Int.toNat_natCast]
 obtain ⟨j, hj, hjk⟩ : ∃ j, c.toNat % k = j ∧ j < k := ⟨_, rfl, Nat.mod_lt _ (by omega)⟩
 rw [hj]
 have hj6 : j < 6 := by omega
 match j, hj6 with
 | 0, _ | 1, _ | 2, _ | 3, _ | 4, _ | 5, _ => simp [abc]; try omega
theorem checkW_ok {w : List UInt8} (hw : w.length ≤ 10) (hl : ∀ c ∈ w, c ∈ lets 6) : checkW w = 0 := by
 unfold checkW
 rw [if_neg (by omega), if_pos]
 rw [List.all_eq_true]
 intro c hc
 have := (lets_mem (k := 6) (Nat.le_refl 6)).1 (hl c hc)
 unfold letW
 simp only [Bool.and_eq_true, decide_eq_true_eq]
 omega
theorem lets_up {k : Nat} (hk : k ≤ 6) {c : UInt8} (h : c ∈ lets k) : c ∈ lets 6 := by
 rw [lets_mem hk] at h
 rw [lets_mem (Nat.le_refl 6)]
 omega
theorem leftO_at {w p : List UInt8} (hw : w.length ≤ 1000) : leftO w p = some (leftW w p) := by
 unfold leftO
 rw [Nat.ble_eq_true_of_le hw]
end Go.Proofs.Ytmnmfmghmenkkaa
set_option linter.unusedSimpArgs false
set_option linter.unusedVariables false
namespace Go.Proofs.Ytmnmfmghmenkkaa
open Go.Abs Go.Pur
set_option maxRecDepth 100000
theorem and1_nat {x : Nat} (h : x < 4096) : bits .and .i64 (x : Int) 1 = ((x % 2 : Nat) : Int) := by
 have e1 : ((BitVec.ofInt 64 (x : Int)) &&& (BitVec.ofInt 64 1)).toNat = x % 2 := by
  rw [BitVec.toNat_and, BitVec.toNat_ofInt, BitVec.toNat_ofInt, show ((x : Int) % ((2 ^ 64 : Nat) : Int)).toNat = x by omega, show ((1 : Int) % ((2 ^ 64 : Nat) : Int)).toNat = 1 by decide, Nat.and_one_is_mod]
 show IntKind.i64.wrap (((BitVec.ofInt 64 (x : Int)) &&& (BitVec.ofInt 64 1)).toNat : Int) = _
 rw [e1, wrap64 (by omega) (by omega)]
theorem tkB_nat {M k : Nat} (hM : M < 4096) (hk : k < 64) : tkB (M : Int) k = M.testBit k := by
 unfold tkB
 have h1 : (M : Int) / 2 ^ min k 64 = ((M / 2 ^ k : Nat) : Int) := by
  rw [show min k 64 = k by omega]
  simp
 have h2 : M / 2 ^ k ≤ M := Nat.div_le_self _ _
 rw [h1, and1_nat (by omega), Nat.testBit_eq_decide_div_mod_eq]
 rcases Nat.mod_two_eq_zero_or_one (M / 2 ^ k) with h | h <;> rw [h] <;> rfl
theorem tk_congr {f g : Nat → Bool} {l : List UInt8} : ∀ {k : Nat}, (∀ j, j < k → f j = g j) → tk f l k = tk g l k
 | 0, _ => rfl
 | k + 1, h => by rw [tk, tk, tk_congr fun j hj => h j (by omega), h k (by omega)]
def tkN (M : Nat) (w : List UInt8) : List UInt8 := tk M.testBit w w.length
theorem f53_nat {w : List UInt8} {M : Nat} (hw : w.length ≤ 10) (hM : M < 4096) : f53O w (M : Int) = some (tkN M w) := by
 unfold f53O
 simp only [e53]
 rw [show Nat.ble (bs w).size 1000 = true from Nat.ble_eq_true_of_le (show w.length ≤ 1000 by omega)]
 simp only [txtO]
 refine congrArg some ?_
 show tk (tkB (M : Int)) w w.length = tkN M w
 exact tk_congr fun j hj => tkB_nat hM (by omega)
theorem tk_all {w : List UInt8} : ∀ {k : Nat}, k ≤ w.length → ∀ {p : List UInt8}, p.Sublist (w.take k) → ∃ M, M < 2 ^ k ∧ tk M.testBit w k = p
 | 0, _, p, h => ⟨0, by simp, by simp at h; simp [tk, h]⟩
 | k + 1, hk, p, h => by
  rw [List.take_add_one, List.getElem?_eq_getElem (show k < w.length by omega), Option.toList_some, List.sublist_append_iff] at h
  obtain ⟨p1, p2, rfl, h1, h2⟩ := h
  obtain ⟨M, hM, he⟩ := tk_all (k := k) (by omega) h1
  have h2' : p2 = [] ∨ p2 = [w[k]] := by
   cases h2 with
   | cons _ h2 => left; simpa using h2
   | cons_cons _ h2 => right; simp at h2; rw [h2]
  rw [Nat.pow_succ]
  rcases h2' with rfl | rfl
  ·refine ⟨M, by omega, ?_⟩
   rw [tk, he, Nat.testBit_lt_two_pow hM]
   simp
  ·refine ⟨2 ^ k + M, by omega, ?_⟩
   rw [tk, Nat.testBit_two_pow_add_eq, Nat.testBit_lt_two_pow hM, tk_congr (g := M.testBit) (fun j hj => Nat.testBit_two_pow_add_gt hj M), he]
   simp [List.getElem?_eq_getElem (show k < w.length by omega)]
theorem tkN_all {w p : List UInt8} (h : p.Sublist w) : ∃ M, M < 2 ^ w.length ∧ tkN M w = p := tk_all (Nat.le_refl _) (by rwa [List.take_length])
theorem tkN_sub {w : List UInt8} {M : Nat} : (tkN M w).Sublist w := by
 have := tk_sub (f := M.testBit) (l := w) w.length
 rwa [List.take_length] at this
def prtM (w : List UInt8) : Nat → Mp (List UInt8) Int × Nat
 | 0 => ([], 0)
 | v + 1 => (mSet (prtM w v).2 (tkN v w) (mGetD 0 (tkN v w) (prtM w v).1 + 1) (prtM w v).1, mClk (prtM w v).2 (tkN v w) (prtM w v).1)
theorem prtM_get {w p : List UInt8} : ∀ {v : Nat}, mGetD 0 p (prtM w v).1 = (((List.range v).filter fun M => decide (tkN M w = p)).length : Int)
 | 0 => rfl
 | v + 1 => by
  rw [List.range_succ, List.filter_append, List.length_append, prtM]
  unfold mGetD
  rw [mGet_set]
  have ih := prtM_get (w := w) (p := p) (v := v)
  unfold mGetD at ih
  by_cases h : tkN v w = p
  ·rw [if_pos h, h, Option.getD_some, ih]
   simp [h]
  ·rw [if_neg h, ih]
   simp [h]
theorem mSet_mem {K V : Type} [DecidableEq K] {c : Nat} {k p : K} {v : V} {l : Mp K V} : p ∈ (mSet c k v l).map (·.1) ↔ (p ∈ l.map (·.1) ∨ k = p) := by
 rw [mSet_keys]
 split
 ·rename_i h
  exact ⟨.inl, fun e => e.elim id fun e => e ▸ h⟩
 ·rw [List.mem_append, List.mem_singleton, eq_comm (a := p)]
theorem prtM_keys {w p : List UInt8} : ∀ {v : Nat}, p ∈ (prtM w v).1.map (·.1) ↔ ∃ M, M < v ∧ tkN M w = p
 | 0 => by simp [prtM]
 | v + 1 => by
  rw [prtM]
  rw [show p ∈ (mSet (prtM w v).2 (tkN v w) (mGetD 0 (tkN v w) (prtM w v).1 + 1) (prtM w v).1, mClk (prtM w v).2 (tkN v w) (prtM w v).1).1.map (·.1) ↔ (p ∈ (prtM w v).1.map (·.1) ∨ tkN v w = p) from mSet_mem, prtM_keys]
  constructor
  ·rintro (⟨M, h, e⟩ | e)
   ·exact ⟨M, by omega, e⟩
   ·exact ⟨v, by omega, e⟩
  ·rintro ⟨M, h, e⟩
   rcases Nat.lt_or_ge M v with h2 | h2
   ·exact .inl ⟨M, h2, e⟩
   ·obtain rfl : M = v := by omega
    exact .inr e
theorem prtM_has {w p : List UInt8} : (0 < mGetD 0 p (prtM w (2 ^ w.length)).1) ↔ leftW w p = true := by
 rw [prtM_get, leftW_sub]
 constructor
 ·intro h
  obtain ⟨M, hM⟩ := List.exists_mem_of_length_pos (l := (List.range (2 ^ w.length)).filter fun M => decide (tkN M w = p)) (by omega)
  have := of_decide_eq_true (List.mem_filter.1 hM).2
  exact this ▸ tkN_sub
 ·intro h
  obtain ⟨M, h1, h2⟩ := tkN_all h
  have := List.length_pos_of_mem (l := (List.range (2 ^ w.length)).filter fun M => decide (tkN M w = p)) (List.mem_filter.2 ⟨List.mem_range.2 h1, by simp [h2]⟩)
  omega
theorem prtM_le {w p : List UInt8} {v : Nat} : mGetD 0 p (prtM w v).1 ≤ v := by
 rw [prtM_get]
 have := List.length_filter_le (fun M => decide (tkN M w = p)) (List.range v)
 rw [List.length_range] at this
 omega
theorem f50_run {w : List UInt8} {F : Nat} (hw : w.length ≤ 10) {K : Mp (List UInt8) Int × Nat → Option (Mp (List UInt8) Int × Nat)} : ∀ (n v : Nat), 2 ^ w.length + 1 ≤ n + v → v ≤ 2 ^ w.length → f50_L0 F w ((2 ^ w.length : Nat) : Int) K n ((prtM w v).1, (prtM w v).2, (v : Int)) = K (prtM w (2 ^ w.length))
 | 0, v, h, hv => absurd h (by omega)
 | n + 1, v, h, hv => by
  have h10 : 2 ^ w.length ≤ 2 ^ 10 := Nat.pow_le_pow_right (by omega) hw
  rw [f50_L0]
  simp only [Option.bind_some]
  by_cases hv' : v < 2 ^ w.length
  ·rw [decide_eq_true (show (v : Int) < ((2 ^ w.length : Nat) : Int) by omega)]
   simp only []
   rw [f53_nat hw (by omega)]
   simp only [Option.bind_some]
   have h1 := prtM_le (w := w) (p := tkN v w) (v := v)
   have h2 : 0 ≤ mGetD 0 (tkN v w) (prtM w v).1 := by rw [prtM_get]; omega
   rw [wrap64 (z := mGetD 0 (tkN v w) (prtM w v).1 + 1) (by omega) (by omega), wrap_nat (by omega)]
   exact f50_run hw n (v + 1) (by omega) (by omega)
  ·obtain rfl : v = 2 ^ w.length := by omega
   rw [decide_eq_false (by omega)]
theorem f50_law {w : List UInt8} {F : Nat} (hw : w.length ≤ 10) (hF : 1100 ≤ F) : f50S F w = some (prtM w (2 ^ w.length)) := by
 have h10 : 2 ^ w.length ≤ 2 ^ 10 := Nat.pow_le_pow_right (by omega) hw
 unfold f50S
 simp only [Option.bind_some]
 have h1 : shlO .i64 1 (w.length : Int) = some ((2 ^ w.length : Nat) : Int) := by
  show some (IntKind.i64.wrap (1 * 2 ^ min (w.length : Int).toNat 64)) = _
  rw [show min (w.length : Int).toNat 64 = w.length by omega, Int.one_mul]
  have h2 : ((2 : Int) ^ w.length) = ((2 ^ w.length : Nat) : Int) := by simp
  rw [h2]
  generalize 2 ^ w.length = N at h10
  rw [wrap64 (by omega) (by omega)]
 rw [h1]
 simp only [Option.bind_some]
 exact f50_run hw F 0 (by omega) (Nat.zero_le _)
theorem mSet_st {K V : Type} [DecidableEq K] {c : Nat} {k : K} {v : V} : ∀ {l : Mp K V}, ((mSet c k v l).map (·.2.2) = l.map (·.2.2) ∧ mClk c k l = c) ∨ ((mSet c k v l).map (·.2.2) = l.map (·.2.2) ++ [c] ∧ mClk c k l = c + 1)
 | [] => .inr ⟨rfl, rfl⟩
 | e :: l => by
  by_cases h : e.1 = k
  ·refine .inl ?_
   rw [mSet, mClk, decide_eq_true h]
   exact ⟨rfl, rfl⟩
  ·rw [mSet, mClk, decide_eq_false h]
   rcases mSet_st (c := c) (k := k) (v := v) (l := l) with ⟨h1, h2⟩ | ⟨h1, h2⟩
   ·refine .inl ⟨?_, h2⟩
    dsimp only
    rw [List.map_cons, List.map_cons, h1]
   ·refine .inr ⟨?_, h2⟩
    dsimp only
    rw [List.map_cons, List.map_cons, h1]
    rfl
theorem prtM_st {w : List UInt8} : ∀ {v : Nat}, (∀ s ∈ (prtM w v).1.map (·.2.2), s < (prtM w v).2) ∧ ((prtM w v).1.map (·.2.2)).Nodup
 | 0 => by simp [prtM]
 | v + 1 => by
  obtain ⟨h1, h2⟩ := prtM_st (w := w) (v := v)
  rw [prtM]
  dsimp only
  rcases mSet_st (c := (prtM w v).2) (k := tkN v w) (v := mGetD 0 (tkN v w) (prtM w v).1 + 1) (l := (prtM w v).1) with ⟨h3, h4⟩ | ⟨h3, h4⟩
  ·rw [h3, h4]; exact ⟨h1, h2⟩
  ·rw [h3, h4]
   refine ⟨fun s hs => ?_, ?_⟩
   ·rcases List.mem_append.1 hs with h | h
    ·have := h1 s h; omega
    ·rw [List.mem_singleton.1 h]; omega
   ·rw [List.nodup_append]
    refine ⟨h2, by simp, fun a ha b hb e => ?_⟩
    rw [List.mem_singleton] at hb
    subst hb; subst e
    exact absurd (h1 _ ha) (Nat.lt_irrefl _)
end Go.Proofs.Ytmnmfmghmenkkaa

/-
  QuirePiles: folds read off piles are as stated.
  Conditions: none; lemmas.
-/
import Derived.Test.YtcjephdjemapbaaDoorCreasesB
set_option linter.unusedSimpArgs false
set_option linter.unusedVariables false
namespace Go.Proofs.YtcjephdjemapbaaDoor
open Go.Abs Go.Pur
set_option maxRecDepth 100000
theorem andU {a b : Nat} (ha : a < 2 ^ 64) (hb : b < 2 ^ 64) : andI .u64 (a : Int) (b : Int) = ((a &&& b : Nat) : Int) := by
 have h : a &&& b < 2 ^ 64 := Nat.and_lt_two_pow _ hb
 unfold andI
 have e : (BitVec.ofInt IntKind.u64.bits (a : Int) &&& BitVec.ofInt IntKind.u64.bits (b : Int)).toNat = a &&& b := by
  rw [BitVec.toNat_and]
  simp only [BitVec.toNat_ofInt, IntKind.bits]
  congr 1 <;> omega
 rw [e]
 exact wrapUC (by omega)
theorem orU {a b : Nat} (ha : a < 2 ^ 64) (hb : b < 2 ^ 64) : orI .u64 (a : Int) (b : Int) = ((a ||| b : Nat) : Int) := by
 have h : a ||| b < 2 ^ 64 := Nat.or_lt_two_pow ha hb
 unfold orI
 have e : (BitVec.ofInt IntKind.u64.bits (a : Int) ||| BitVec.ofInt IntKind.u64.bits (b : Int)).toNat = a ||| b := by
  rw [BitVec.toNat_or]
  simp only [BitVec.toNat_ofInt, IntKind.bits]
  congr 1 <;> omega
 rw [e]
 exact wrapUC (by omega)
theorem shrU {a s : Nat} (hs : s < 64) : shrO .u64 (a : Int) (s : Int) = some ((a / 2 ^ s : Nat) : Int) := by
 show some (shrI .u64 (a : Int) (s : Int)) = _
 unfold shrI
 have e : min ((s : Nat) : Int).toNat IntKind.u64.bits = s := by simp [IntKind.bits]; omega
 rw [e]
 congr 1
 have e2 : (2 : Int) ^ s = ((2 ^ s : Nat) : Int) := by simp
 rw [e2, Int.fdiv_eq_ediv_of_nonneg _ (Int.natCast_nonneg _)]
 rfl
theorem shlU {s : Nat} (hs : s < 64) : shlO .u64 1 (s : Int) = some ((2 ^ s : Nat) : Int) := by
 have : (List.range 64).all (fun s => decide (shlI .u64 1 (s : Nat) = ((2 ^ s : Nat) : Int))) = true := by kernel_rfl
 have := List.all_eq_true.1 this s (List.mem_range.2 hs)
 simp only [decide_eq_true_eq] at this
 show some (shlI .u64 1 (s : Int)) = _
 rw [this]
def chk (n : Nat) : List Int → List Int → Int
 | [], _ => 0
 | y :: r, seen => if y < 0 then 2 else if (n : Int) ≤ y then 2 else if y ∈ seen then 6 else chk n r (seen ++ [y])
section
variable {F : Nat} {p : List Int} {K : Unit → Option (List UInt8 × Int)}
theorem l40 (hp : p.length ≤ 64) : ∀ (n j M : Nat), j ≤ p.length → p.length - j < n → M < 2 ^ 64 → (∀ t : Nat, t < 64 → M.testBit t = decide ((t : Int) ∈ p.take j)) →
  f40_L0 F p (p.length : Int) K n ((M : Int), (j : Int)) = if chk p.length (p.drop j) (p.take j) = 0 then K () else some ([], chk p.length (p.drop j) (p.take j)) := by
 intro n
 induction n with
 | zero => intro j M _ h; omega
 | succ n ih =>
  intro j M hj hn hM hb
  rw [f40_L0]
  by_cases h : j < p.length
  ·have h1 : decide ((j : Int) < (p.length : Int)) = true := decide_eq_true (by omega)
   have w := wrap_nat (show j < 1000000000000 by omega)
   have t2 : p.take (j + 1) = p.take j ++ [p[j]] := by rw [List.take_add_one, List.getElem?_eq_getElem h]; rfl
   rw [drop_at h, chk]
   have q := fun M' h2 h3 => ih (j + 1) M' (by omega) (by omega) h2 h3
   rw [t2] at q
   simp only [Option.bind_some, h1, gI_at h]
   generalize p[j] = y at q
   by_cases a : y < 0
   ·simp [a]
   ·by_cases b : (p.length : Int) ≤ y
    ·simp [a, b]
    ·obtain ⟨t, rfl⟩ := Int.eq_ofNat_of_zero_le (show 0 ≤ y by omega)
     have ht : t < 64 := by omega
     have e1 : andI .u64 ((M / 2 ^ t : Nat) : Int) 1 = ((M / 2 ^ t % 2 : Nat) : Int) := by
      have := andU (a := M / 2 ^ t) (b := 1) (Nat.lt_of_le_of_lt (Nat.div_le_self _ _) hM) (by decide)
      rw [Nat.and_one_is_mod] at this
      exact this
     have e2 : decide (((M / 2 ^ t % 2 : Nat) : Int) = 1) = M.testBit t := by
      rw [Nat.testBit_eq_decide_div_mod_eq]
      exact decide_eq_decide.2 (by omega)
     rw [if_neg a, if_neg b]
     simp only [decide_eq_false a, decide_eq_false b, Option.bind_some, shrU ht, e1, e2, shlU ht, w]
     rw [hb t ht]
     by_cases c : ((t : Nat) : Int) ∈ p.take j
     ·rw [if_pos c, decide_eq_true c]
      rfl
     ·rw [if_neg c, decide_eq_false c]
      have p1 : 2 ^ t < 2 ^ 64 := Nat.pow_lt_pow_right (by decide) ht
      have e3 := orU hM p1
      simp only [e3]
      refine q (M ||| 2 ^ t) (Nat.or_lt_two_pow hM p1) fun s hs => ?_
      rw [Nat.testBit_or, hb s hs, Nat.testBit_two_pow]
      simp only [List.mem_append, List.mem_singleton]
      by_cases d : ((s : Nat) : Int) ∈ p.take j
      ·simp [d]
      ·by_cases e : t = s
       ·subst e; simp
       ·have e' : ¬ ((s : Nat) : Int) = (t : Nat) := fun w => e (by omega)
        simp [d, e, e']
  ·have h1 : decide ((j : Int) < (p.length : Int)) = false := decide_eq_false (by omega)
   simp only [Option.bind_some, h1, List.drop_of_length_le (by omega : p.length ≤ j), chk]
   simp
end
def pairMin : List Int → List Int
 | a :: b :: r => min a b :: pairMin r
 | _ => []
def idxG : List Int → Int → Int
 | [], _ => -1
 | y :: r, j => if 0 = y then j else idxG r (j + 1)
def maxG (x : Int) (l : List Int) : Int := l.foldl max x
theorem f68_eq {F : Nat} {l : List Int} (hl : l.length < F) (hb : l.length < 1000000000) : f68S F l 0 = some (idxG l 0) := by
 have key : ∀ (n j : Nat), j ≤ l.length → l.length - j < n → f68_L0 F l 0 (l.length : Int) (fun _ => some (-1)) n (j : Int) = some (idxG (l.drop j) (j : Int)) := by
  intro n
  induction n with
  | zero => intro j _ h; omega
  | succ n ih =>
   intro j hj hn
   rw [f68_L0]
   by_cases h : j < l.length
   ·have h1 : decide ((j : Int) < (l.length : Int)) = true := decide_eq_true (by omega)
    have w := wrap_nat (show j < 1000000000000 by omega)
    have q := ih (j + 1) (by omega) (by omega)
    rw [drop_at h, idxG]
    simp only [Option.bind_some, h1, gI_at h, w, q]
    by_cases e : (0 : Int) = l[j]
    ·rw [if_pos e, decide_eq_true e]
    ·rw [if_neg e, decide_eq_false e]
     rfl
   ·have h1 : decide ((j : Int) < (l.length : Int)) = false := decide_eq_false (by omega)
    simp only [Option.bind_some, h1, List.drop_of_length_le (by omega : l.length ≤ j), idxG]
 have := key F 0 (by omega) (by omega)
 unfold f68S
 rw [Option.bind_some]
 exact this
theorem f68b_eq {F : Nat} {l : List Int} (hl : l.length < F) (hb : l.length < 1000000000) : f68bS F l 0 = some (idxG l 0) := by
 have key : ∀ (n j : Nat), j ≤ l.length → l.length - j < n → f68b_L0 F l 0 (l.length : Int) (fun _ => some (-1)) n (j : Int) = some (idxG (l.drop j) (j : Int)) := by
  intro n
  induction n with
  | zero => intro j _ h; omega
  | succ n ih =>
   intro j hj hn
   rw [f68b_L0]
   by_cases h : j < l.length
   ·have h1 : decide ((j : Int) < (l.length : Int)) = true := decide_eq_true (by omega)
    have w := wrap_nat (show j < 1000000000000 by omega)
    have q := ih (j + 1) (by omega) (by omega)
    rw [drop_at h, idxG]
    simp only [Option.bind_some, h1, gI_at h, w, q]
    by_cases e : (0 : Int) = l[j]
    ·rw [if_pos e, decide_eq_true e]
    ·rw [if_neg e, decide_eq_false e]
     rfl
   ·have h1 : decide ((j : Int) < (l.length : Int)) = false := decide_eq_false (by omega)
    simp only [Option.bind_some, h1, List.drop_of_length_le (by omega : l.length ≤ j), idxG]
 have := key F 0 (by omega) (by omega)
 unfold f68bS
 rw [Option.bind_some]
 exact this
theorem f69_eq {F : Nat} {a : Int} {l : List Int} (hl : l.length + 1 < F) (hb : l.length < 1000000000) : f69S F (a :: l) = some (maxG a l) := by
 have key : ∀ (n j : Nat) (x : Int), 1 ≤ j → j ≤ l.length + 1 → l.length + 1 - j < n → f69_L0 F (a :: l) (fun v => some v) n (x, (j : Int)) = some (maxG x ((a :: l).drop j)) := by
  intro n
  induction n with
  | zero => intro j x _ _ h; omega
  | succ n ih =>
   intro j x h0 hj hn
   rw [f69_L0]
   by_cases h : j < (a :: l).length
   ·have h1 : decide ((j : Int) < ((a :: l).length : Int)) = true := decide_eq_true (by omega)
    have w := wrap_nat (show j < 1000000000000 by omega)
    have h' : j < l.length + 1 := h
    have q := ih (j + 1) (max x (a :: l)[j]) (by omega) (by omega) (by omega)
    rw [drop_at h]
    simp only [Option.bind_some, h1, gI_at h, w, q]
    rfl
   ·have h1 : decide ((j : Int) < ((a :: l).length : Int)) = false := decide_eq_false (by omega)
    simp only [Option.bind_some, h1]
    rw [List.drop_of_length_le (by omega)]
    rfl
 have q := key F 1 a (by omega) (by omega) (by omega)
 unfold f69S
 have h1 : decide (((a :: l).length : Int) < 1) = false := decide_eq_false (by simp; omega)
 have h2 : gI (a :: l) 0 = some a := rfl
 rw [Option.bind_some, Option.bind_some, h1]
 dsimp only
 rw [h2, Option.bind_some]
 exact q
theorem pq1 {F : Nat} {p : List Int} {K : List Int × List Int → Option (List UInt8 × Int)} (hv : p.length ≤ 64) : ∀ (n i : Nat) (acc : List Int), i ≤ p.length → (p.length - i) % 2 = 0 → p.length - i < n → acc.length ≤ 64 + i → f40_L1 F p K n (acc, (i : Int), p) = K (acc ++ pairMin (p.drop i), p) := by
 intro n
 induction n with
 | zero => intro i acc _ _ h; omega
 | succ n ih =>
  intro i acc hi he hn ha
  rw [f40_L1]
  by_cases h : i < p.length
  ·have h2 : i + 1 < p.length := by omega
   have h1 : decide ((i : Int) < (p.length : Int)) = true := decide_eq_true (by omega)
   have w := wrap_nat (show i < 1000000000000 by omega)
   have w2 : IntKind.i64.wrap ((i : Int) + 2) = ((i + 2 : Nat) : Int) := by rw [wrap64 (by omega) (by omega)]; omega
   rw [drop_at h, drop_at h2, pairMin]
   have q := ih (i + 2) (acc ++ [min p[i] p[i + 1]]) (by omega) (by omega) (by omega) (by simp; omega)
   simp only [Option.bind_some, h1, gI_at h, w, gI_at h2, w2, app1_at (show acc.length ≤ 1000000 by omega)]
   rw [q, List.append_assoc]
   rfl
  ·have h1 : decide ((i : Int) < (p.length : Int)) = false := decide_eq_false (by omega)
   simp only [Option.bind_some, h1, List.drop_of_length_le (by omega : p.length ≤ i), pairMin, List.append_nil]
theorem pq5 {F : Nat} {p : List Int} {K : List Int × List Int → Option (List UInt8 × Int)} (hv : p.length ≤ 64) : ∀ (n i : Nat) (acc : List Int), i ≤ p.length → (p.length - i) % 2 = 0 → p.length - i < n → acc.length ≤ 64 + i → f40_L5 F p K n (acc, (i : Int), p) = K (acc ++ pairMin (p.drop i), p) := by
 intro n
 induction n with
 | zero => intro i acc _ _ h; omega
 | succ n ih =>
  intro i acc hi he hn ha
  rw [f40_L5]
  by_cases h : i < p.length
  ·have h2 : i + 1 < p.length := by omega
   have h1 : decide ((i : Int) < (p.length : Int)) = true := decide_eq_true (by omega)
   have w := wrap_nat (show i < 1000000000000 by omega)
   have w2 : IntKind.i64.wrap ((i : Int) + 2) = ((i + 2 : Nat) : Int) := by rw [wrap64 (by omega) (by omega)]; omega
   rw [drop_at h, drop_at h2, pairMin]
   have q := ih (i + 2) (acc ++ [min p[i] p[i + 1]]) (by omega) (by omega) (by omega) (by simp; omega)
   simp only [Option.bind_some, h1, gI_at h, w, gI_at h2, w2, app1_at (show acc.length ≤ 1000000 by omega)]
   rw [q, List.append_assoc]
   rfl
  ·have h1 : decide ((i : Int) < (p.length : Int)) = false := decide_eq_false (by omega)
   simp only [Option.bind_some, h1, List.drop_of_length_le (by omega : p.length ≤ i), pairMin, List.append_nil]
theorem pq3 {F : Nat} {v : List Int} {K : List Int × List Int → Option (List UInt8 × Int)} {m : List Int} (hv : v.length ≤ 64) : ∀ (n i : Nat) (acc : List Int), i ≤ v.length → (v.length - i) % 2 = 0 → v.length - i < n → acc.length ≤ 64 + i → f40_L3 F v K n (acc, (i : Int), m) = K (acc ++ pairMin (v.drop i), m) := by
 intro n
 induction n with
 | zero => intro i acc _ _ h; omega
 | succ n ih =>
  intro i acc hi he hn ha
  rw [f40_L3]
  by_cases h : i < v.length
  ·have h2 : i + 1 < v.length := by omega
   have h1 : decide ((i : Int) < (v.length : Int)) = true := decide_eq_true (by omega)
   have w := wrap_nat (show i < 1000000000000 by omega)
   have w2 : IntKind.i64.wrap ((i : Int) + 2) = ((i + 2 : Nat) : Int) := by rw [wrap64 (by omega) (by omega)]; omega
   rw [drop_at h, drop_at h2, pairMin]
   have q := ih (i + 2) (acc ++ [min v[i] v[i + 1]]) (by omega) (by omega) (by omega) (by simp; omega)
   simp only [Option.bind_some, h1, gI_at h, w, gI_at h2, w2, app1_at (show acc.length ≤ 1000000 by omega)]
   rw [q, List.append_assoc]
   rfl
  ·have h1 : decide ((i : Int) < (v.length : Int)) = false := decide_eq_false (by omega)
   simp only [Option.bind_some, h1, List.drop_of_length_le (by omega : v.length ≤ i), pairMin, List.append_nil]
theorem pq4 {F : Nat} {v : List Int} {K : List Int × List Int → Option (List UInt8 × Int)} {m : List Int} (hv : v.length ≤ 64) : ∀ (n i : Nat) (acc : List Int), i ≤ v.length → (v.length - i) % 2 = 0 → v.length - i < n → acc.length ≤ 64 + i → f40_L4 F v K n (acc, (i : Int), m) = K (acc ++ pairMin (v.drop i), m) := by
 intro n
 induction n with
 | zero => intro i acc _ _ h; omega
 | succ n ih =>
  intro i acc hi he hn ha
  rw [f40_L4]
  by_cases h : i < v.length
  ·have h2 : i + 1 < v.length := by omega
   have h1 : decide ((i : Int) < (v.length : Int)) = true := decide_eq_true (by omega)
   have w := wrap_nat (show i < 1000000000000 by omega)
   have w2 : IntKind.i64.wrap ((i : Int) + 2) = ((i + 2 : Nat) : Int) := by rw [wrap64 (by omega) (by omega)]; omega
   rw [drop_at h, drop_at h2, pairMin]
   have q := ih (i + 2) (acc ++ [min v[i] v[i + 1]]) (by omega) (by omega) (by omega) (by simp; omega)
   simp only [Option.bind_some, h1, gI_at h, w, gI_at h2, w2, app1_at (show acc.length ≤ 1000000 by omega)]
   rw [q, List.append_assoc]
   rfl
  ·have h1 : decide ((i : Int) < (v.length : Int)) = false := decide_eq_false (by omega)
   simp only [Option.bind_some, h1, List.drop_of_length_le (by omega : v.length ≤ i), pairMin, List.append_nil]
theorem pq7 {F : Nat} {v : List Int} {K : List Int × List Int → Option (List UInt8 × Int)} {m : List Int} (hv : v.length ≤ 64) : ∀ (n i : Nat) (acc : List Int), i ≤ v.length → (v.length - i) % 2 = 0 → v.length - i < n → acc.length ≤ 64 + i → f40_L7 F v K n (acc, (i : Int), m) = K (acc ++ pairMin (v.drop i), m) := by
 intro n
 induction n with
 | zero => intro i acc _ _ h; omega
 | succ n ih =>
  intro i acc hi he hn ha
  rw [f40_L7]
  by_cases h : i < v.length
  ·have h2 : i + 1 < v.length := by omega
   have h1 : decide ((i : Int) < (v.length : Int)) = true := decide_eq_true (by omega)
   have w := wrap_nat (show i < 1000000000000 by omega)
   have w2 : IntKind.i64.wrap ((i : Int) + 2) = ((i + 2 : Nat) : Int) := by rw [wrap64 (by omega) (by omega)]; omega
   rw [drop_at h, drop_at h2, pairMin]
   have q := ih (i + 2) (acc ++ [min v[i] v[i + 1]]) (by omega) (by omega) (by omega) (by simp; omega)
   simp only [Option.bind_some, h1, gI_at h, w, gI_at h2, w2, app1_at (show acc.length ≤ 1000000 by omega)]
   rw [q, List.append_assoc]
   rfl
  ·have h1 : decide ((i : Int) < (v.length : Int)) = false := decide_eq_false (by omega)
   simp only [Option.bind_some, h1, List.drop_of_length_le (by omega : v.length ≤ i), pairMin, List.append_nil]
theorem pq8 {F : Nat} {v : List Int} {K : List Int × List Int → Option (List UInt8 × Int)} {m : List Int} (hv : v.length ≤ 64) : ∀ (n i : Nat) (acc : List Int), i ≤ v.length → (v.length - i) % 2 = 0 → v.length - i < n → acc.length ≤ 64 + i → f40_L8 F v K n (acc, (i : Int), m) = K (acc ++ pairMin (v.drop i), m) := by
 intro n
 induction n with
 | zero => intro i acc _ _ h; omega
 | succ n ih =>
  intro i acc hi he hn ha
  rw [f40_L8]
  by_cases h : i < v.length
  ·have h2 : i + 1 < v.length := by omega
   have h1 : decide ((i : Int) < (v.length : Int)) = true := decide_eq_true (by omega)
   have w := wrap_nat (show i < 1000000000000 by omega)
   have w2 : IntKind.i64.wrap ((i : Int) + 2) = ((i + 2 : Nat) : Int) := by rw [wrap64 (by omega) (by omega)]; omega
   rw [drop_at h, drop_at h2, pairMin]
   have q := ih (i + 2) (acc ++ [min v[i] v[i + 1]]) (by omega) (by omega) (by omega) (by simp; omega)
   simp only [Option.bind_some, h1, gI_at h, w, gI_at h2, w2, app1_at (show acc.length ≤ 1000000 by omega)]
   rw [q, List.append_assoc]
   rfl
  ·have h1 : decide ((i : Int) < (v.length : Int)) = false := decide_eq_false (by omega)
   simp only [Option.bind_some, h1, List.drop_of_length_le (by omega : v.length ≤ i), pairMin, List.append_nil]
theorem pz1 {F : Nat} {p : List Int} {K : List Int × List Int → Option (List UInt8 × Int)} (hv : p.length ≤ 64) (he : p.length % 2 = 0) (hF : 70 ≤ F) : f40_L1 F p K F ([], 0, p) = K (pairMin p, p) := pq1 hv F 0 [] (by omega) (by omega) (by omega) (by simp)
theorem pz5 {F : Nat} {p : List Int} {K : List Int × List Int → Option (List UInt8 × Int)} (hv : p.length ≤ 64) (he : p.length % 2 = 0) (hF : 70 ≤ F) : f40_L5 F p K F ([], 0, p) = K (pairMin p, p) := pq5 hv F 0 [] (by omega) (by omega) (by omega) (by simp)
theorem pz3 {F : Nat} {v m : List Int} {K : List Int × List Int → Option (List UInt8 × Int)} (hv : v.length ≤ 64) (he : v.length % 2 = 0) (hF : 70 ≤ F) : f40_L3 F v K F ([], 0, m) = K (pairMin v, m) := pq3 hv F 0 [] (by omega) (by omega) (by omega) (by simp)
theorem pz4 {F : Nat} {v m : List Int} {K : List Int × List Int → Option (List UInt8 × Int)} (hv : v.length ≤ 64) (he : v.length % 2 = 0) (hF : 70 ≤ F) : f40_L4 F v K F ([], 0, m) = K (pairMin v, m) := pq4 hv F 0 [] (by omega) (by omega) (by omega) (by simp)
theorem pz7 {F : Nat} {v m : List Int} {K : List Int × List Int → Option (List UInt8 × Int)} (hv : v.length ≤ 64) (he : v.length % 2 = 0) (hF : 70 ≤ F) : f40_L7 F v K F ([], 0, m) = K (pairMin v, m) := pq7 hv F 0 [] (by omega) (by omega) (by omega) (by simp)
theorem pz8 {F : Nat} {v m : List Int} {K : List Int × List Int → Option (List UInt8 × Int)} (hv : v.length ≤ 64) (he : v.length % 2 = 0) (hF : 70 ≤ F) : f40_L8 F v K F ([], 0, m) = K (pairMin v, m) := pq8 hv F 0 [] (by omega) (by omega) (by omega) (by simp)
theorem pairMin_len : ∀ {l : List Int} {h : Nat}, l.length = 2 * h → (pairMin l).length = h
 | [], h, e => by
  have : h = 0 := by simp only [List.length_nil] at e; omega
  subst this; rfl
 | [a], h, e => by simp at e; omega
 | a :: b :: r, h, e => by
  simp only [List.length_cons] at e
  rw [pairMin, List.length_cons, pairMin_len (h := h - 1) (by omega)]
  omega
def maxOf : List Int → Int
 | [] => 0
 | a :: l => maxG a l
def rd : Nat → List Int → Option (List Int)
 | 0, _ => some []
 | j + 1, v => if idxG (pairMin v) 0 < 0 then none else if ((pairMin v).length : Int) ≤ maxOf (pairMin v) then none else (rd j (pairMin v)).map fun cs => (if (idxG v 0).tmod 2 = 1 then 111 else 117) :: cs
theorem rd_len : ∀ {j : Nat} {v cs : List Int}, rd j v = some cs → cs.length = j
 | 0, _, _, h => by cases h; rfl
 | j + 1, v, cs, h => by
  rw [rd] at h
  split at h
  ·cases h
  ·split at h
   ·cases h
   ·cases e : rd j (pairMin v) with
    | none => rw [e] at h; cases h
    | some ds =>
     rw [e] at h
     cases h
     rw [List.length_cons, rd_len e]
theorem f69_at {F : Nat} {w : List Int} (h0 : w ≠ []) (hw : w.length ≤ 64) (hF : 70 ≤ F) : f69S F w = some (maxOf w) := by
 cases w with
 | nil => exact absurd rfl h0
 | cons a l => exact f69_eq (by simp at hw; omega) (by simp at hw; omega)
theorem pr2 {F : Nat} {K : List Int × List Int → Option (List UInt8 × Int)} {m : List Int} (hF : 70 ≤ F) : ∀ (n j : Nat) (acc v : List Int), v.length = 2 ^ j → j ≤ 6 → j < n → acc.length + j ≤ 10 → f40_L2 F K n (acc, v, m) = match rd j v with
   | some cs => K (acc ++ cs, m)
   | none => some ([], 12) := by
 intro n
 induction n with
 | zero => intro j acc v _ _ h; omega
 | succ n ih =>
  intro j acc v hv hj hn ha
  rw [f40_L2]
  have h64 : 2 ^ j ≤ 64 := Nat.pow_le_pow_right (n := 2) (by decide) hj
  cases j with
  | zero =>
   have h1 : decide ((1 : Int) < (v.length : Int)) = false := decide_eq_false (by rw [hv]; decide)
   simp only [Option.bind_some, h1, rd, List.append_nil]
  | succ j =>
   have hp : 2 ^ (j + 1) = 2 * 2 ^ j := by rw [Nat.pow_succ]; omega
   have h1p : 1 ≤ 2 ^ j := Nat.one_le_two_pow
   have h1 : decide ((1 : Int) < (v.length : Int)) = true := decide_eq_true (by omega)
   have hw : (pairMin v).length = 2 ^ j := pairMin_len (by omega)
   have hne : pairMin v ≠ [] := fun e => by rw [e] at hw; simp at hw; omega
   have i1 := f68_eq (F := F) (l := v) (by omega) (by omega)
   have i2 := f68_eq (F := F) (l := pairMin v) (by omega) (by omega)
   have i3 := f69_at (F := F) hne (by omega) hF
   have q := fun c => ih j (acc ++ [c]) (pairMin v) hw (by omega) (by omega) (by simp; omega)
   rw [rd]
   rw [Option.bind_some, Option.bind_some, h1]
   dsimp only
   rw [i1, Option.bind_some, Option.bind_some, Option.bind_some]
   by_cases c : (idxG v 0).tmod 2 = 1
   ·rw [decide_eq_true c, if_pos c]
    dsimp only
    rw [app1_at (show acc.length ≤ 1000000 by omega), Option.bind_some]
    rw [pz3 (by omega) (by omega) hF]
    dsimp only
    rw [i2, Option.bind_some, Option.bind_some]
    by_cases d : idxG (pairMin v) 0 < 0
    ·rw [decide_eq_true d, if_pos d]
    ·rw [decide_eq_false d, if_neg d]
     dsimp only
     rw [i3, Option.bind_some, Option.bind_some, Option.bind_some]
     by_cases e : ((pairMin v).length : Int) ≤ maxOf (pairMin v)
     ·rw [decide_eq_true e, if_pos e]
     ·rw [decide_eq_false e, if_neg e]
      dsimp only
      rw [q]
      cases rd j (pairMin v) with
      | none => rfl
      | some cs => simp only [Option.map_some, List.append_assoc, List.singleton_append]
   ·rw [decide_eq_false c, if_neg c]
    dsimp only
    rw [app1_at (show acc.length ≤ 1000000 by omega), Option.bind_some]
    rw [pz4 (by omega) (by omega) hF]
    dsimp only
    rw [i2, Option.bind_some, Option.bind_some]
    by_cases d : idxG (pairMin v) 0 < 0
    ·rw [decide_eq_true d, if_pos d]
    ·rw [decide_eq_false d, if_neg d]
     dsimp only
     rw [i3, Option.bind_some, Option.bind_some, Option.bind_some]
     by_cases e : ((pairMin v).length : Int) ≤ maxOf (pairMin v)
     ·rw [decide_eq_true e, if_pos e]
     ·rw [decide_eq_false e, if_neg e]
      dsimp only
      rw [q]
      cases rd j (pairMin v) with
      | none => rfl
      | some cs => simp only [Option.map_some, List.append_assoc, List.singleton_append]
theorem pr6 {F : Nat} {K : List Int × List Int → Option (List UInt8 × Int)} {m : List Int} (hF : 70 ≤ F) : ∀ (n j : Nat) (acc v : List Int), v.length = 2 ^ j → j ≤ 6 → j < n → acc.length + j ≤ 10 → f40_L6 F K n (acc, v, m) = match rd j v with
   | some cs => K (acc ++ cs, m)
   | none => some ([], 12) := by
 intro n
 induction n with
 | zero => intro j acc v _ _ h; omega
 | succ n ih =>
  intro j acc v hv hj hn ha
  rw [f40_L6]
  have h64 : 2 ^ j ≤ 64 := Nat.pow_le_pow_right (n := 2) (by decide) hj
  cases j with
  | zero =>
   have h1 : decide ((1 : Int) < (v.length : Int)) = false := decide_eq_false (by rw [hv]; decide)
   simp only [Option.bind_some, h1, rd, List.append_nil]
  | succ j =>
   have hp : 2 ^ (j + 1) = 2 * 2 ^ j := by rw [Nat.pow_succ]; omega
   have h1p : 1 ≤ 2 ^ j := Nat.one_le_two_pow
   have h1 : decide ((1 : Int) < (v.length : Int)) = true := decide_eq_true (by omega)
   have hw : (pairMin v).length = 2 ^ j := pairMin_len (by omega)
   have hne : pairMin v ≠ [] := fun e => by rw [e] at hw; simp at hw; omega
   have i1 := f68_eq (F := F) (l := v) (by omega) (by omega)
   have i2 := f68_eq (F := F) (l := pairMin v) (by omega) (by omega)
   have i3 := f69_at (F := F) hne (by omega) hF
   have q := fun c => ih j (acc ++ [c]) (pairMin v) hw (by omega) (by omega) (by simp; omega)
   rw [rd]
   rw [Option.bind_some, Option.bind_some, h1]
   dsimp only
   rw [i1, Option.bind_some, Option.bind_some, Option.bind_some]
   by_cases c : (idxG v 0).tmod 2 = 1
   ·rw [decide_eq_true c, if_pos c]
    dsimp only
    rw [app1_at (show acc.length ≤ 1000000 by omega), Option.bind_some]
    rw [pz7 (by omega) (by omega) hF]
    dsimp only
    rw [i2, Option.bind_some, Option.bind_some]
    by_cases d : idxG (pairMin v) 0 < 0
    ·rw [decide_eq_true d, if_pos d]
    ·rw [decide_eq_false d, if_neg d]
     dsimp only
     rw [i3, Option.bind_some, Option.bind_some, Option.bind_some]
     by_cases e : ((pairMin v).length : Int) ≤ maxOf (pairMin v)
     ·rw [decide_eq_true e, if_pos e]
     ·rw [decide_eq_false e, if_neg e]
      dsimp only
      rw [q]
      cases rd j (pairMin v) with
      | none => rfl
      | some cs => simp only [Option.map_some, List.append_assoc, List.singleton_append]
   ·rw [decide_eq_false c, if_neg c]
    dsimp only
    rw [app1_at (show acc.length ≤ 1000000 by omega), Option.bind_some]
    rw [pz8 (by omega) (by omega) hF]
    dsimp only
    rw [i2, Option.bind_some, Option.bind_some]
    by_cases d : idxG (pairMin v) 0 < 0
    ·rw [decide_eq_true d, if_pos d]
    ·rw [decide_eq_false d, if_neg d]
     dsimp only
     rw [i3, Option.bind_some, Option.bind_some, Option.bind_some]
     by_cases e : ((pairMin v).length : Int) ≤ maxOf (pairMin v)
     ·rw [decide_eq_true e, if_pos e]
     ·rw [decide_eq_false e, if_neg e]
      dsimp only
      rw [q]
      cases rd j (pairMin v) with
      | none => rfl
      | some cs => simp only [Option.map_some, List.append_assoc, List.singleton_append]
def readL (k : Nat) (p : List Int) : List UInt8 × Int := match rd k p with
 | none => ([], 12)
 | some cs => if pileL (bytesN cs) = p then (bytesN cs, 0) else ([], 12)
def pilesL (p : List Int) (k : Nat) : List UInt8 × Int := if chk p.length p [] = 0 then readL k p else ([], chk p.length p [])
theorem copy_at {p : List Int} {n : Nat} (hn : p.length = n) (h0 : n ≠ 0) : copyO (List.replicate n (0 : Int)) p = some p := by
 unfold copyO
 rw [List.length_replicate, hn, beqT rfl, beqF h0]
theorem fin_ok {F : Nat} {k : Nat} {p cs : List Int} (hk : k ≤ 6) (hp : p.length = 2 ^ k) (hr : rd k p = some cs) :
  ((some (bytesN cs)).bind fun x102 =>
    (pileO x102).bind fun x103 =>
    (sameO x103.2 p).bind fun x104 =>
    (match x104 with
    | true => ((some (bytesN cs)).bind fun x105 =>
    some (x105, (0 : Int)))
    | false => (some ([], 12)))) = some (readL k p) := by
 have hl : (bytesN cs).length = k := by simp [bytesN, rd_len hr]
 have h64 : 2 ^ k ≤ 64 := Nat.pow_le_pow_right (n := 2) (by decide) hk
 have e1 : pileO (bytesN cs) = some (pileC (bytesN cs), pileL (bytesN cs)) := by unfold pileO; rw [if_pos (by omega)]
 have e2 : sameO (pileL (bytesN cs)) p = some (decide (pileL (bytesN cs) = p)) := by
  unfold sameO
  rw [ble_true (show (pileL (bytesN cs)).length ≤ 1000000 by rw [pileL_len, hl]; omega)]
 unfold readL
 rw [hr, Option.bind_some, e1, Option.bind_some, e2, Option.bind_some]
 by_cases e : pileL (bytesN cs) = p
 ·rw [decide_eq_true e]
  simp only [e, if_true]
  rfl
 ·rw [decide_eq_false e]
  simp only [e, if_false]
theorem l40z {F : Nat} {p : List Int} {K : Unit → Option (List UInt8 × Int)} (hp : p.length ≤ 64) (hF : 70 ≤ F) : f40_L0 F p (p.length : Int) K F (0, 0) = if chk p.length p [] = 0 then K () else some ([], chk p.length p []) := by
 have := l40 (F := F) (p := p) (K := K) hp F 0 0 (by omega) (by omega) (by decide) (fun t _ => by simp)
 exact this
theorem f40_ok {F k : Nat} {p : List Int} (hF : 70 ≤ F) (hk : k ≤ 6) (hp : p.length = 2 ^ k) (h4 : andI .i64 (p.length : Int) (IntKind.i64.wrap ((p.length : Int) - 1)) = 0) : f40S F p = some (pilesL p k) := by
 have h64 : 2 ^ k ≤ 64 := Nat.pow_le_pow_right (n := 2) (by decide) hk
 have h1 : 1 ≤ 2 ^ k := Nat.one_le_two_pow
 unfold f40S pilesL
 rw [Option.bind_some, Option.bind_some, decide_eq_false (show ¬ (64 : Int) < p.length by omega)]
 dsimp only
 rw [Option.bind_some, decide_eq_false (show ¬ (p.length : Int) = 0 by omega)]
 dsimp only
 rw [Option.bind_some, Option.bind_some, h4, Option.bind_some, decide_eq_true rfl]
 dsimp only
 rw [l40z (by omega) hF]
 by_cases hc : chk p.length p [] = 0
 ·rw [if_pos hc, if_pos hc]
  rw [mkN_at (show p.length ≤ 1000000 by omega), Option.bind_some, gN_at (show p.length ≤ 1000000 by omega), Option.bind_some, Option.bind_some, copy_at rfl (by omega), Option.bind_some, Option.bind_some, Option.bind_some]
  cases k with
  | zero =>
   rw [decide_eq_false (show ¬ (1 : Int) < p.length by omega)]
   dsimp only
   exact fin_ok (F := F) (k := 0) (cs := []) (by omega) hp rfl
  | succ j =>
   have hp2 : 2 ^ (j + 1) = 2 * 2 ^ j := by rw [Nat.pow_succ]; omega
   have h1p : 1 ≤ 2 ^ j := Nat.one_le_two_pow
   have hw : (pairMin p).length = 2 ^ j := pairMin_len (by omega)
   have hne : pairMin p ≠ [] := fun e => by rw [e] at hw; simp at hw; omega
   have i1 := f68b_eq (F := F) (l := p) (by omega) (by omega)
   have i2 := f68_eq (F := F) (l := pairMin p) (by omega) (by omega)
   have i3 := f69_at (F := F) hne (by omega) hF
   have fin := fun {cs} => fin_ok (F := F) (k := j + 1) (p := p) (cs := cs) hk hp
   unfold readL
   rw [decide_eq_true (show (1 : Int) < p.length by omega)]
   dsimp only
   rw [i1, Option.bind_some, Option.bind_some, Option.bind_some]
   by_cases c : (idxG p 0).tmod 2 = 1
   ·have ee : readL (j + 1) p = readL (j + 1) p := rfl
    have fin1 : ∀ cs, rd j (pairMin p) = some cs → rd (j + 1) p = (if idxG (pairMin p) 0 < 0 then none else if ((pairMin p).length : Int) ≤ maxOf (pairMin p) then none else some (111 :: cs)) := fun cs g => by rw [rd, g, if_pos c]; rfl
    rw [decide_eq_true c]
    dsimp only
    rw [pz1 (by omega) (by omega) hF]
    dsimp only
    rw [i2, Option.bind_some, Option.bind_some]
    by_cases d : idxG (pairMin p) 0 < 0
    ·rw [decide_eq_true d, rd, if_pos d]
    ·rw [decide_eq_false d]
     dsimp only
     rw [i3, Option.bind_some, Option.bind_some, Option.bind_some]
     by_cases e : ((pairMin p).length : Int) ≤ maxOf (pairMin p)
     ·rw [decide_eq_true e, rd, if_neg d, if_pos e]
     ·rw [decide_eq_false e]
      dsimp only
      rw [pr2 hF F j [111] (pairMin p) hw (by omega) (by omega) (by simp; omega)]
      cases g : rd j (pairMin p) with
      | none => rw [rd, if_neg d, if_neg e, g]; rfl
      | some cs =>
       have r := fin1 cs g
       rw [if_neg d, if_neg e] at r
       exact fin r
   ·have fin1 : ∀ cs, rd j (pairMin p) = some cs → rd (j + 1) p = (if idxG (pairMin p) 0 < 0 then none else if ((pairMin p).length : Int) ≤ maxOf (pairMin p) then none else some (117 :: cs)) := fun cs g => by rw [rd, g, if_neg c]; rfl
    rw [decide_eq_false c]
    dsimp only
    rw [pz5 (by omega) (by omega) hF]
    dsimp only
    rw [i2, Option.bind_some, Option.bind_some]
    by_cases d : idxG (pairMin p) 0 < 0
    ·rw [decide_eq_true d, rd, if_pos d]
    ·rw [decide_eq_false d]
     dsimp only
     rw [i3, Option.bind_some, Option.bind_some, Option.bind_some]
     by_cases e : ((pairMin p).length : Int) ≤ maxOf (pairMin p)
     ·rw [decide_eq_true e, rd, if_neg d, if_pos e]
     ·rw [decide_eq_false e]
      dsimp only
      rw [pr6 hF F j [117] (pairMin p) hw (by omega) (by omega) (by simp; omega)]
      cases g : rd j (pairMin p) with
      | none => rw [rd, if_neg d, if_neg e, g]; rfl
      | some cs =>
       have r := fin1 cs g
       rw [if_neg d, if_neg e] at r
       exact fin r
 ·rw [if_neg hc, if_neg hc]
end Go.Proofs.YtcjephdjemapbaaDoor

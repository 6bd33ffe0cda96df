/-
  QuireCreases: folds read off creases, and creases that clash, are as stated.
  Conditions: none; lemmas.
-/
import Derived.Test.YtcjephdjemapbaaDoorCreasesTab
import Derived.Test.YtcjephdjemapbaaDoorWalk0
set_option linter.unusedSimpArgs false
set_option linter.unusedVariables false
namespace Go.Proofs.YtcjephdjemapbaaDoor
open Go.Abs Go.Pur
set_option maxRecDepth 100000
theorem letters_rep {n : Nat} (h : n < 64) : lettersE (rep n) 63 118 104 = 0 := by
 unfold lettersE
 rw [if_neg (by simp; omega), if_pos (by simp)]
theorem rdF_len {l : List UInt8} {k : Nat} : (rdF l k).length = k := by simp [rdF]
def rdI (l : List UInt8) (k f : Nat) : Int := if (l.getD (2 ^ (k - 1 - f) - 1) 0).toNat = 118 then 111 else 117
theorem shl_tab {j : Nat} (h : j ≤ 6) : shlO .i64 1 (j : Int) = some ((2 ^ j : Nat) : Int) := by
 have : (List.range 7).all (fun j => decide (shlI .i64 1 (j : Nat) = ((2 ^ j : Nat) : Int))) = true := by kernel_rfl
 have := List.all_eq_true.1 this j (List.mem_range.2 (by omega))
 simp only [decide_eq_true_eq] at this
 show some (shlI .i64 1 (j : Int)) = _
 rw [this]
theorem sI_at {α : Type} {l : List α} {j : Nat} {v : α} (h : j < l.length) : sI l (j : Int) v = some (l.set j v) := by
 show (match Nat.blt j l.length with | true => some (l.set j v) | false => none) = _
 rw [blt_true h]
theorem take_set {α : Type} {l : List α} {j : Nat} {v : α} (h : j < l.length) : (l.set j v).take (j + 1) = l.take j ++ [v] := by
 rw [List.take_add_one, List.take_set_of_le (Nat.le_refl _), List.getElem?_set_self (by simpa using h)]
 rfl
theorem l29 {l : List UInt8} {k : Nat} {K : List Int → Option (List UInt8 × Int)} (hk : k ≤ 6) (hl : l.length + 1 = 2 ^ k) : ∀ (n v : Nat) (m : List Int), m.length = k → v ≤ k → k - v < n → m.take v = (List.range v).map (rdI l k) → f29_L0 fuel l k K n ((v : Int), m) = K ((List.range k).map (rdI l k)) := by
 intro n
 induction n with
 | zero => intro v m _ _ h; omega
 | succ n ih =>
  intro v m hm hv hn ht
  rw [f29_L0]
  by_cases h : v < k
  ·have h1 : decide ((v : Int) < (k : Int)) = true := decide_eq_true (by omega)
   have w1 : IntKind.i64.wrap ((k : Int) - 1) = (k : Int) - 1 := wrap64 (by omega) (by omega)
   have w2 : IntKind.i64.wrap ((k : Int) - 1 - v) = ((k - 1 - v : Nat) : Int) := by rw [wrap64 (by omega) (by omega)]; omega
   have p1 : 1 ≤ 2 ^ (k - 1 - v) := Nat.one_le_two_pow
   have p2 : 2 ^ (k - 1 - v) ≤ 64 := Nat.pow_le_pow_right (n := 2) (by decide) (show k - 1 - v ≤ 6 by omega)
   have p3 : 2 ^ (k - 1 - v) ≤ 2 ^ (k - 1) := Nat.pow_le_pow_right (n := 2) (by decide) (by omega)
   have p4 : 2 ^ k = 2 * 2 ^ (k - 1) := by rw [← Nat.pow_succ']; congr 1; omega
   have w3 : IntKind.i64.wrap (((2 ^ (k - 1 - v) : Nat) : Int) - 1) = ((2 ^ (k - 1 - v) - 1 : Nat) : Int) := by rw [wrap64 (by omega) (by omega)]; omega
   have hi : 2 ^ (k - 1 - v) - 1 < l.length := by omega
   have g := gS_at hi
   have w4 := wrap_nat (show v < 1000000000000 by omega)
   have hg : l.getD (2 ^ (k - 1 - v) - 1) 0 = l[2 ^ (k - 1 - v) - 1] := by simp [List.getD_eq_getElem?_getD, hi]
   have hr : rdI l k v = if (l[2 ^ (k - 1 - v) - 1]).toNat = 118 then 111 else 117 := by unfold rdI; rw [hg]
   generalize l[2 ^ (k - 1 - v) - 1] = c at g hr
   have hv' : v < m.length := by omega
   by_cases e : c.toNat = 118
   ·rw [if_pos e] at hr
    have e' : decide (((c.toNat : Nat) : Int) = 118) = true := decide_eq_true (by omega)
    have q := ih (v + 1) ((m.set v 117).set v 111) (by simp [hm]) (by omega) (by omega) (by rw [List.set_set, take_set hv', ht, List.range_succ, List.map_append, hr.symm]; rfl)
    simp only [Option.bind_some, h1, gI_at hv', sI_at hv', w1, w2, shl_tab (show k - 1 - v ≤ 6 by omega), w3, g, e', w4]
    rw [gI_at (by simpa using hv'), sI_at (by simpa using hv')]
    simp only [Option.bind_some]
    exact q
   ·rw [if_neg e] at hr
    have e' : decide (((c.toNat : Nat) : Int) = 118) = false := decide_eq_false (by omega)
    have q := ih (v + 1) (m.set v 117) (by simp [hm]) (by omega) (by omega) (by rw [take_set hv', ht, List.range_succ, List.map_append, hr.symm]; rfl)
    simp only [Option.bind_some, h1, gI_at hv', sI_at hv', w1, w2, shl_tab (show k - 1 - v ≤ 6 by omega), w3, g, e', w4]
    exact q
  ·have h1 : decide ((v : Int) < (k : Int)) = false := decide_eq_false (by omega)
   obtain rfl : v = k := by omega
   simp only [Option.bind_some, h1]
   rw [← ht, List.take_of_length_le (by omega)]
theorem l29z {l : List UInt8} {k : Nat} {K : List Int → Option (List UInt8 × Int)} (hk : k ≤ 6) (hl : l.length + 1 = 2 ^ k) : f29_L0 fuel l k K fuel (0, List.replicate k 0) = K ((List.range k).map (rdI l k)) :=
 l29 hk hl fuel 0 (List.replicate k 0) (by simp) (by omega) (by rw [fuel_eq]; omega) (by simp)
theorem bytes_rd {l : List UInt8} {k : Nat} : bytesN ((List.range k).map (rdI l k)) = rdF l k := by
 unfold bytesN rdF
 rw [List.map_map]
 refine List.map_congr_left fun f _ => ?_
 simp only [Function.comp_apply]
 unfold rdI rdU
 split <;> rfl
def foldsL (l : List UInt8) (k : Nat) : List UInt8 × Int := if creasesL (rdF l k) = l then (rdF l k, 0) else ([], 12)
theorem mkN_at {n : Nat} (h : n ≤ 1000000) : mkN (n : Int) = some n := by
 show (match Nat.ble n 1000000 with | true => some n | false => none) = _
 rw [ble_true h]
theorem gN_at {n : Nat} (h : n ≤ 1000000) : gN n = some () := by
 unfold gN
 rw [show Nat.ble n 1000000 = true from ble_true h]
theorem f29_ok {l : List UInt8} {k : Nat} (hs : f62S fuel l = some ((k : Int), 0)) (hk : k ≤ 6) (hl : l.length + 1 = 2 ^ k) : f29S fuel l = some (foldsL l k) := by
 unfold f29S
 have m1 := mkN_at (n := k) (by omega)
 have m2 := gN_at (n := k) (by omega)
 rw [hs, Option.bind_some]
 dsimp only
 rw [Option.bind_some, decide_eq_true rfl]
 dsimp only
 rw [m1, Option.bind_some, m2, Option.bind_some, Option.bind_some, l29z hk hl, Option.bind_some, bytes_rd]
 rw [show creasesO (rdF l k) = some (creasesL (rdF l k)) by unfold creasesO; rw [if_pos (by rw [rdF_len]; exact hk)]]
 rw [Option.bind_some, Option.bind_some]
 unfold foldsL
 by_cases e : creasesL (rdF l k) = l
 ·rw [decide_eq_true e, if_pos e]
  rfl
 ·rw [decide_eq_false e, if_neg e]
theorem c66 {l l' : List UInt8} {i j : Nat} {a b a' b' : Int} (h1 : gS l (i : Int) = some a) (h2 : gS l (j : Int) = some b) (h3 : gS l' (i : Int) = some a') (h4 : gS l' (j : Int) = some b') (h : decide (a = b) = decide (a' = b')) : f66S fuel l i j = f66S fuel l' i j := by
 unfold f66S
 simp only [h1, h2, h3, h4, Option.bind_some, h]
theorem c67 {l l' : List UInt8} {i j : Nat} {a b a' b' : Int} (h1 : gS l (i : Int) = some a) (h2 : gS l (j : Int) = some b) (h3 : gS l' (i : Int) = some a') (h4 : gS l' (j : Int) = some b') (h : decide (a = b) = decide (a' = b')) : f67S fuel l i j = f67S fuel l' i j := by
 unfold f67S
 simp only [h1, h2, h3, h4, Option.bind_some, h]
theorem tab67 {i j : Nat} (hi : i < 63) (hj : j < 63) : ok67 i j = true := by
 rcases Nat.lt_or_ge i 20 with h | h
 ·exact List.all_eq_true.1 (List.all_eq_true.1 tab67a i (List.mem_range.2 h)) j (List.mem_range.2 hj)
 ·rcases Nat.lt_or_ge i 40 with h2 | h2
  ·have := List.all_eq_true.1 (List.all_eq_true.1 tab67b (i - 20) (List.mem_range.2 (by omega))) j (List.mem_range.2 hj)
   rwa [show 20 + (i - 20) = i by omega] at this
  ·have := List.all_eq_true.1 (List.all_eq_true.1 tab67c (i - 40) (List.mem_range.2 (by omega))) j (List.mem_range.2 hj)
   rwa [show 40 + (i - 40) = i by omega] at this
def cl (l : List UInt8) (i j : Nat) : Bool := (f66S fuel l i j).getD false
theorem same_some {x y : Option Bool} (h : (match x, y with | some a, some b => a == b | _, _ => false) = true) : x = some (x.getD false) ∧ y = some (x.getD false) := by
 cases x with
 | none => simp at h
 | some a =>
  cases y with
  | none => simp at h
  | some b =>
   simp only [beq_iff_eq] at h
   subst h
   exact ⟨rfl, rfl⟩
theorem clash_ok {l : List UInt8} {i j : Nat} (hl : l.length ≤ 63) (hi : i < j) (hj : j < l.length) : f66S fuel l i j = some (cl l i j) ∧ f67S fuel l i j = some (cl l i j) := by
 have t := tab67 (show i < 63 by omega) (show j < 63 by omega)
 unfold ok67 at t
 rw [bleF hi] at t
 simp only [Bool.false_or, Bool.and_eq_true] at t
 have g1 := gS_at (l := l) (show i < l.length by omega)
 have g2 := gS_at (l := l) hj
 have r1 : gS (rep 63) (i : Int) = some 118 := by rw [gS_at (by rw [List.length_replicate]; omega), List.getElem_replicate]; rfl
 have r2 : gS (rep 63) (j : Int) = some 118 := by rw [gS_at (by rw [List.length_replicate]; omega), List.getElem_replicate]; rfl
 have la : (alt j).length = 63 := by rw [alt, List.length_set, List.length_replicate]
 have s1 : gS (alt j) (i : Int) = some 118 := by
  rw [gS_at (show i < (alt j).length by omega)]
  unfold alt
  rw [List.getElem_set, if_neg (by omega), List.getElem_replicate]
  rfl
 have s2 : gS (alt j) (j : Int) = some 104 := by
  rw [gS_at (show j < (alt j).length by omega)]
  unfold alt
  rw [List.getElem_set, if_pos rfl]
  rfl
 unfold cl
 by_cases e : (l[i].toNat : Int) = (l[j].toNat : Int)
 ·have d : decide ((l[i].toNat : Int) = (l[j].toNat : Int)) = decide ((118 : Int) = 118) := by rw [decide_eq_true e]; rfl
  rw [c66 g1 g2 r1 r2 d, c67 g1 g2 r1 r2 d]
  exact same_some t.1
 ·have d : decide ((l[i].toNat : Int) = (l[j].toNat : Int)) = decide ((118 : Int) = 104) := by rw [decide_eq_false e]; rfl
  rw [c66 g1 g2 s1 s2 d, c67 g1 g2 s1 s2 d]
  exact same_some t.2
def scJ (c : Nat → Nat → Bool) (i : Nat) : Nat → Nat → Option Nat
 | 0, _ => none
 | k + 1, j => match c i j with
  | true => some j
  | false => scJ c i k (j + 1)
def scI (c : Nat → Nat → Bool) : Nat → Nat → Option (Nat × Nat)
 | 0, _ => none
 | k + 1, i => match scJ c i k (i + 1) with
  | some j => some (i, j)
  | none => scI c k (i + 1)
section
variable {l : List UInt8} {K : Unit → Option (Int × Int × Int)}
theorem l31 {F : Nat} {c : Nat → Nat → Bool} (hc : ∀ i j : Nat, i < j → j < l.length → f66S F l (i : Int) (j : Int) = some (c i j)) {i : Nat} (hl : l.length ≤ 63) : ∀ (n k j : Nat), k + j = l.length → i < j → k < n → f31_L1 F l (i : Int) K n (j : Int) = match scJ c i k j with
   | some j' => some ((i : Int), (j' : Int), 0)
   | none => K () := by
 intro n
 induction n with
 | zero => intro k j _ _ h; omega
 | succ n ih =>
  intro k j hk hij hn
  rw [f31_L1]
  cases k with
  | zero =>
   have h1 : decide ((j : Int) < (l.length : Int)) = false := decide_eq_false (by omega)
   simp only [Option.bind_some, h1, scJ]
  | succ k =>
   have h1 : decide ((j : Int) < (l.length : Int)) = true := decide_eq_true (by omega)
   have w := wrap_nat (show j < 1000000000000 by omega)
   simp only [Option.bind_some, h1, hc i j hij (by omega), w, ih k (j + 1) (by omega) (by omega) (by omega), scJ]
   cases c i j <;> rfl
theorem o31 {F : Nat} {c : Nat → Nat → Bool} (hc : ∀ i j : Nat, i < j → j < l.length → f66S F l (i : Int) (j : Int) = some (c i j)) (hF : l.length < F) (hl : l.length ≤ 63) : ∀ (n k i : Nat), k + i = l.length → k < n → f31_L0 F l (l.length : Int) K n (i : Int) = match scI c k i with
   | some (i', j') => some ((i' : Int), (j' : Int), 0)
   | none => K () := by
 intro n
 induction n with
 | zero => intro k i _ h; omega
 | succ n ih =>
  intro k i hk hn
  rw [f31_L0]
  cases k with
  | zero =>
   have h1 : decide ((i : Int) < (l.length : Int)) = false := decide_eq_false (by omega)
   simp only [Option.bind_some, h1, scI]
  | succ k =>
   have h1 : decide ((i : Int) < (l.length : Int)) = true := decide_eq_true (by omega)
   have w := wrap_nat (show i < 1000000000000 by omega)
   simp only [Option.bind_some, h1, w, ih k (i + 1) (by omega) (by omega), scI]
   rw [l31 hc hl F k (i + 1) (by omega) (by omega) (by omega)]
   cases scJ c i k (i + 1) <;> rfl
end
def whyL (l : List UInt8) : Int × Int × Int := match scI (cl l) l.length 0 with
 | some (i, j) => ((i : Int), (j : Int), 0)
 | none => (0, 0, 13)
theorem f31_ok {l : List UInt8} {k : Int} (hs : f62S fuel l = some (k, 0)) (hl : l.length ≤ 63) : f31S fuel l = some (whyL l) := by
 have o := o31 (l := l) (K := fun _ => some (0, 0, 13)) (F := fuel) (c := cl l) (fun i j h1 h2 => (clash_ok hl h1 h2).1) (by rw [fuel_eq]; omega) hl fuel l.length 0 (by omega) (by rw [fuel_eq]; omega)
 rw [show ((0 : Nat) : Int) = 0 from rfl] at o
 unfold f31S whyL
 rw [hs, Option.bind_some]
 dsimp only
 rw [Option.bind_some, decide_eq_true rfl]
 dsimp only
 rw [Option.bind_some, o]
 cases scI (cl l) l.length 0 <;> rfl
end Go.Proofs.YtcjephdjemapbaaDoor

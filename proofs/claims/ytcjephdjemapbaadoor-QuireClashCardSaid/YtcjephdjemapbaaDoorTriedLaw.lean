/-
  QuireTried: creases are those of some folds just if folds are returned; all folds are tried.
  Conditions: none; lemmas.
-/
import Derived.Test.YtcjephdjemapbaaDoorTriedB
import Derived.Test.YtcjephdjemapbaaDoorLaw9
set_option linter.unusedSimpArgs false
set_option linter.unusedVariables false
namespace Go.Proofs.YtcjephdjemapbaaDoor
open Go.Abs Go.Pur
set_option maxRecDepth 100000
theorem scJ_none {c : Nat → Nat → Bool} {i : Nat} : ∀ (k j : Nat), (∀ t, j ≤ t → t < j + k → c i t = false) → scJ c i k j = none
 | 0, _, _ => rfl
 | k + 1, j, h => by
  rw [scJ, h j (Nat.le_refl _) (by omega)]
  exact scJ_none k (j + 1) fun t h1 h2 => h t (by omega) (by omega)
theorem scJ_some {c : Nat → Nat → Bool} {i : Nat} : ∀ (k j t : Nat), j ≤ t → t < j + k → c i t = true → scJ c i k j ≠ none
 | 0, _, _, _, _, _ => by omega
 | k + 1, j, t, h1, h2, h => by
  rw [scJ]
  cases e : c i j with
  | true => intro w; cases w
  | false =>
   have : j ≠ t := fun w => by rw [w, h] at e; cases e
   exact scJ_some k (j + 1) t (by omega) (by omega) h
theorem scI_none {c : Nat → Nat → Bool} : ∀ (k i : Nat), (∀ s t, i ≤ s → s < t → t < i + k → c s t = false) → scI c k i = none
 | 0, _, _ => rfl
 | k + 1, i, h => by
  rw [scI, scJ_none k (i + 1) fun t h1 h2 => h i t (Nat.le_refl _) (by omega) (by omega)]
  exact scI_none k (i + 1) fun s t h1 h2 h3 => h s t (by omega) h2 (by omega)
theorem scI_some {c : Nat → Nat → Bool} : ∀ (k i s t : Nat), i ≤ s → s < t → t < i + k → c s t = true → scI c k i ≠ none
 | 0, _, _, _, _, _, _, _ => by omega
 | k + 1, i, s, t, h1, h2, h3, h => by
  rw [scI]
  cases e : scJ c i k (i + 1) with
  | some j => intro w; cases w
  | none =>
   have : i ≠ s := fun w => by subst w; exact scJ_some k (i + 1) t (by omega) (by omega) h e
   exact scI_some k (i + 1) s t (by omega) h2 (by omega) h
theorem why_13 {l : List UInt8} (h : ∀ s t, s < t → t < l.length → cl l s t = false) : whyL l = (0, 0, 13) := by
 unfold whyL
 rw [scI_none l.length 0 fun s t _ h2 h3 => h s t h2 (by omega)]
theorem cl_eq {l : List UInt8} {i j : Nat} (hl : l.length ≤ 63) (hi : i < j) (hj : j < l.length) : cl l i j = if (l.getD i 0).toNat = (l.getD j 0).toNat then cl (rep 63) i j else cl (alt j) i j := by
 have g1 := gS_at (l := l) (show i < l.length by omega)
 have g2 := gS_at (l := l) hj
 have r1 : gS (rep 63) (i : Int) = some 118 := by rw [gS_at (by rw [List.length_replicate]; omega), List.getElem_replicate]; rfl
 have r2 : gS (rep 63) (j : Int) = some 118 := by rw [gS_at (by rw [List.length_replicate]; omega), List.getElem_replicate]; rfl
 have la : (alt j).length = 63 := by rw [alt, List.length_set, List.length_replicate]
 have s1 : gS (alt j) (i : Int) = some 118 := by
  rw [gS_at (show i < (alt j).length by omega)]
  unfold alt
  rw [List.getElem_set, if_neg (by omega), List.getElem_replicate]
  rfl
 have s2 : gS (alt j) (j : Int) = some 104 := by
  rw [gS_at (show j < (alt j).length by omega)]
  unfold alt
  rw [List.getElem_set, if_pos rfl]
  rfl
 have d1 : l.getD i 0 = l[i] := by simp [List.getD_eq_getElem?_getD, show i < l.length by omega]
 have d2 : l.getD j 0 = l[j] := by simp [List.getD_eq_getElem?_getD, hj]
 rw [d1, d2]
 unfold cl
 by_cases e : l[i].toNat = l[j].toNat
 ·rw [if_pos e]
  have d : decide ((l[i].toNat : Int) = (l[j].toNat : Int)) = decide ((118 : Int) = 118) := by rw [decide_eq_true (by omega)]; rfl
  rw [c66 g1 g2 r1 r2 d]
 ·rw [if_neg e]
  have d : decide ((l[i].toNat : Int) = (l[j].toNat : Int)) = decide ((118 : Int) = 104) := by rw [decide_eq_false (by omega)]; rfl
  rw [c66 g1 g2 s1 s2 d]
def okC (i j : Nat) : Bool := Nat.ble j i || (if tzN (i + 1) = tzN (j + 1) then cl (rep 63) i j == decide ((j - i) / 2 ^ tzN (i + 1) % 4 = 2) && cl (alt j) i j == decide (¬ (j - i) / 2 ^ tzN (i + 1) % 4 = 2) else cl (rep 63) i j == false && cl (alt j) i j == false)
theorem tabC1 : (List.range 20).all (fun i => (List.range 63).all fun j => okC i j) = true := by kernel_rfl
theorem tabC2 : (List.range 20).all (fun i => (List.range 63).all fun j => okC (20 + i) j) = true := by kernel_rfl
theorem tabC3 : (List.range 23).all (fun i => (List.range 63).all fun j => okC (40 + i) j) = true := by kernel_rfl
theorem tabC {i j : Nat} (hi : i < 63) (hj : j < 63) : okC i j = true := by
 rcases Nat.lt_or_ge i 20 with h | h
 ·exact List.all_eq_true.1 (List.all_eq_true.1 tabC1 i (List.mem_range.2 h)) j (List.mem_range.2 hj)
 ·rcases Nat.lt_or_ge i 40 with h2 | h2
  ·have := List.all_eq_true.1 (List.all_eq_true.1 tabC2 (i - 20) (List.mem_range.2 (by omega))) j (List.mem_range.2 hj)
   rwa [show 20 + (i - 20) = i by omega] at this
  ·have := List.all_eq_true.1 (List.all_eq_true.1 tabC3 (i - 40) (List.mem_range.2 (by omega))) j (List.mem_range.2 hj)
   rwa [show 40 + (i - 40) = i by omega] at this
theorem cl_is {l : List UInt8} {i j : Nat} (hl : l.length ≤ 63) (hi : i < j) (hj : j < l.length) : cl l i j = decide (tzN (i + 1) = tzN (j + 1) ∧ ((l.getD i 0).toNat = (l.getD j 0).toNat ↔ (j - i) / 2 ^ tzN (i + 1) % 4 = 2)) := by
 have t := tabC (show i < 63 by omega) (show j < 63 by omega)
 unfold okC at t
 rw [bleF hi, Bool.false_or] at t
 rw [cl_eq hl hi hj]
 by_cases a : tzN (i + 1) = tzN (j + 1)
 ·rw [if_pos a] at t
  simp only [Bool.and_eq_true, beq_iff_eq] at t
  rw [t.1, t.2]
  by_cases e : (l.getD i 0).toNat = (l.getD j 0).toNat
  ·rw [if_pos e]; exact decide_eq_decide.2 ⟨fun h => ⟨a, fun _ => h, fun _ => e⟩, fun h => h.2.1 e⟩
  ·rw [if_neg e]; exact decide_eq_decide.2 ⟨fun h => ⟨a, fun w => absurd w e, fun w => absurd w h⟩, fun h w => e (h.2.2 w)⟩
 ·rw [if_neg a] at t
  simp only [Bool.and_eq_true, beq_iff_eq] at t
  rw [t.1, t.2, ite_self]
  exact (decide_eq_false fun h => a h.1).symm
def okT (j : Nat) : Bool := let z := tzN (j + 1); Nat.ble z 5 && Nat.beq ((j + 1) % 2 ^ z) 0 && Nat.beq ((j + 1) / 2 ^ z % 2) 1 && Nat.beq (tzN (2 ^ z)) z && Nat.ble (2 ^ z) (j + 1)
theorem tabT : (List.range 63).all okT = true := by kernel_rfl
theorem tz_at {j : Nat} (h : j < 63) : tzN (j + 1) ≤ 5 ∧ (j + 1) % 2 ^ tzN (j + 1) = 0 ∧ (j + 1) / 2 ^ tzN (j + 1) % 2 = 1 ∧ tzN (2 ^ tzN (j + 1)) = tzN (j + 1) ∧ 2 ^ tzN (j + 1) ≤ j + 1 := by
 have t := List.all_eq_true.1 tabT j (List.mem_range.2 h)
 unfold okT at t
 simp only [Bool.and_eq_true] at t
 exact ⟨Nat.le_of_ble_eq_true t.1.1.1.1, Nat.eq_of_beq_eq_true t.1.1.1.2, Nat.eq_of_beq_eq_true t.1.1.2, Nat.eq_of_beq_eq_true t.1.2, Nat.le_of_ble_eq_true t.2⟩
theorem kind_at {r : List UInt8} {j : Nat} (h : j < 2 ^ r.length - 1) : (creasesL r).getD j 0 = kindL r j := by
 have : j < (creasesL r).length := by simp [creasesL]; exact h
 simp [List.getD_eq_getElem?_getD, creasesL, this, h]
theorem creases_len {r : List UInt8} : (creasesL r).length = 2 ^ r.length - 1 := by simp [creasesL]
theorem kind_eq {r : List UInt8} {s t : Nat} (hz : tzN (s + 1) = tzN (t + 1)) : (kindL r s).toNat = (kindL r t).toNat ↔ ((s + 1) / 2 ^ tzN (s + 1) % 4 = 1 ↔ (t + 1) / 2 ^ tzN (s + 1) % 4 = 1) := by
 unfold kindL
 rw [← hz]
 generalize (r.getD (r.length - 1 - tzN (s + 1)) 0 == 111) = b
 by_cases a : (s + 1) / 2 ^ tzN (s + 1) % 4 = 1 <;> by_cases c : (t + 1) / 2 ^ tzN (s + 1) % 4 = 1 <;> cases b <;> simp [a, c]
theorem div_sub {a b q z : Nat} (ha : a + 1 = 2 ^ z * q) {w : Nat} (hb : b + 1 = 2 ^ z * w) (h : a < b) : (b - a) / 2 ^ z = w - q := by
 have e : b - a = 2 ^ z * (w - q) := by rw [Nat.mul_sub]; omega
 rw [e, Nat.mul_div_cancel_left _ (Nat.two_pow_pos z)]
theorem quot_at {j z : Nat} (h : (j + 1) % 2 ^ z = 0) : j + 1 = 2 ^ z * ((j + 1) / 2 ^ z) := by
 have := Nat.div_add_mod (j + 1) (2 ^ z)
 omega
theorem none_clash {r : List UInt8} (hr : r.length ≤ 6) {s t : Nat} (h : s < t) (ht : t < (creasesL r).length) : cl (creasesL r) s t = false := by
 rw [creases_len] at ht
 have h64 : 2 ^ r.length ≤ 64 := Nat.pow_le_pow_right (n := 2) (by decide) hr
 rw [cl_is (by rw [creases_len]; omega) h (by rw [creases_len]; exact ht)]
 refine decide_eq_false fun w => ?_
 obtain ⟨hz, hw⟩ := w
 rw [kind_at (show s < 2 ^ r.length - 1 by omega), kind_at ht, kind_eq hz] at hw
 obtain ⟨_, a1, a2, _, _⟩ := tz_at (show s < 63 by omega)
 obtain ⟨_, b1, b2, _, _⟩ := tz_at (show t < 63 by omega)
 rw [← hz] at b1 b2
 have q1 := quot_at a1
 have q2 := quot_at b1
 rw [div_sub q1 q2 h] at hw
 have hlt : (s + 1) / 2 ^ tzN (s + 1) ≤ (t + 1) / 2 ^ tzN (s + 1) := Nat.div_le_div_right (by omega)
 generalize (s + 1) / 2 ^ tzN (s + 1) = a at hw a2 hlt
 generalize (t + 1) / 2 ^ tzN (s + 1) = b at hw b2 hlt
 by_cases x : a % 4 = 1 <;> by_cases y : b % 4 = 1 <;> simp [x, y] at hw <;> omega
theorem f23_ok {F : Nat} {l : List UInt8} (h : checkE l = 0) : f23S F l = some (creasesL l, 0) := by
 have e : creasesO l = some (creasesL l) := by unfold creasesO; rw [if_pos (check_len h)]
 unfold f23S
 rw [Option.bind_some, h, Option.bind_some, decide_eq_true rfl]
 dsimp only
 rw [e, Option.bind_some]
section
variable {F k : Nat} {c : List UInt8} {K : List UInt8 × Bool → Option Bool}
end
theorem k9 {k : Nat} (hk : k ≤ 4) : shlO .u8 1 (k : Int) = some ((2 ^ k : Nat) : Int) ∧ IntKind.u8.wrap (((2 ^ k : Nat) : Int) - 1) = ((2 ^ k - 1 : Nat) : Int) ∧ shlO .i64 1 (k : Int) = some ((2 ^ k : Nat) : Int) := by
 have : k = 0 ∨ k = 1 ∨ k = 2 ∨ k = 3 ∨ k = 4 := by omega
 rcases this with rfl | rfl | rfl | rfl | rfl <;> exact ⟨rfl, rfl, rfl⟩
end Go.Proofs.YtcjephdjemapbaaDoor

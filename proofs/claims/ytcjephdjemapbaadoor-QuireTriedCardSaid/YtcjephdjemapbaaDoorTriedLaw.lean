/-
  QuireTried: creases are those of some folds just if folds are returned; all folds are tried.
  Conditions: none; lemmas.
-/
import Derived.Test.YtcjephdjemapbaaDoorLaw9
set_option linter.unusedSimpArgs false
set_option linter.unusedVariables false
namespace Go.Proofs.YtcjephdjemapbaaDoor
open Go.Abs Go.Pur
set_option maxRecDepth 100000
theorem scJ_none {c : Nat → Nat → Bool} {i : Nat} : ∀ (k j : Nat), (∀ t, j ≤ t → t < j + k → c i t = false) → scJ c i k j = none
  | 0, _, _ => rfl
  | k + 1, j, h => by
    rw [scJ, h j (Nat.le_refl _) (by omega)]
    exact scJ_none k (j + 1) fun t h1 h2 => h t (by omega) (by omega)
theorem scJ_some {c : Nat → Nat → Bool} {i : Nat} : ∀ (k j t : Nat), j ≤ t → t < j + k → c i t = true → scJ c i k j ≠ none
  | 0, _, _, _, _, _ => by omega
  | k + 1, j, t, h1, h2, h => by
    rw [scJ]
    cases e : c i j with
    | true => intro w; cases w
    | false =>
      have : j ≠ t := fun w => by rw [w, h] at e; cases e
      exact scJ_some k (j + 1) t (by omega) (by omega) h
theorem scI_none {c : Nat → Nat → Bool} : ∀ (k i : Nat), (∀ s t, i ≤ s → s < t → t < i + k → c s t = false) → scI c k i = none
  | 0, _, _ => rfl
  | k + 1, i, h => by
    rw [scI, scJ_none k (i + 1) fun t h1 h2 => h i t (Nat.le_refl _) (by omega) (by omega)]
    exact scI_none k (i + 1) fun s t h1 h2 h3 => h s t (by omega) h2 (by omega)
theorem scI_some {c : Nat → Nat → Bool} : ∀ (k i s t : Nat), i ≤ s → s < t → t < i + k → c s t = true → scI c k i ≠ none
  | 0, _, _, _, _, _, _, _ => by omega
  | k + 1, i, s, t, h1, h2, h3, h => by
    rw [scI]
    cases e : scJ c i k (i + 1) with
    | some j => intro w; cases w
    | none =>
      have : i ≠ s := fun w => by subst w; exact scJ_some k (i + 1) t (by omega) (by omega) h e
      exact scI_some k (i + 1) s t (by omega) h2 (by omega) h
theorem scI_lt {c : Nat → Nat → Bool} : ∀ (k i : Nat) {a b : Nat}, scI c k i = some (a, b) → True := fun _ _ _ _ _ => trivial
theorem why_13 {l : List UInt8} (h : ∀ s t, s < t → t < l.length → cl l s t = false) : whyL l = (0, 0, 13) := by
  unfold whyL
  rw [scI_none l.length 0 fun s t _ h2 h3 => h s t h2 (by omega)]
theorem why_0 {l : List UInt8} {s t : Nat} (h1 : s < t) (h2 : t < l.length) (h : cl l s t = true) : (whyL l).2.2 = 0 := by
  unfold whyL
  cases e : scI (cl l) l.length 0 with
  | none => exact absurd e (scI_some l.length 0 s t (by omega) h1 (by omega) h)
  | some ab => rfl
theorem cl_eq {l : List UInt8} {i j : Nat} (hl : l.length ≤ 63) (hi : i < j) (hj : j < l.length) : cl l i j = if (l.getD i 0).toNat = (l.getD j 0).toNat then cl (rep 63) i j else cl (alt j) i j := by
  have g1 := gS_at (l := l) (show i < l.length by omega)
  have g2 := gS_at (l := l) hj
  have r1 : gS (rep 63) (i : Int) = some 118 := by rw [gS_at (by rw [List.length_replicate]; omega), List.getElem_replicate]; rfl
  have r2 : gS (rep 63) (j : Int) = some 118 := by rw [gS_at (by rw [List.length_replicate]; omega), List.getElem_replicate]; rfl
  have la : (alt j).length = 63 := by rw [alt, List.length_set, List.length_replicate]
  have s1 : gS (alt j) (i : Int) = some 118 := by
    rw [gS_at (show i < (alt j).length by omega)]
    unfold alt
    rw [List.getElem_set, if_neg (by omega), List.getElem_replicate]
    rfl
  have s2 : gS (alt j) (j : Int) = some 104 := by
    rw [gS_at (show j < (alt j).length by omega)]
    unfold alt
    rw [List.getElem_set, if_pos rfl]
    rfl
  have d1 : l.getD i 0 = l[i] := by simp [List.getD_eq_getElem?_getD, show i < l.length by omega]
  have d2 : l.getD j 0 = l[j] := by simp [List.getD_eq_getElem?_getD, hj]
  rw [d1, d2]
  unfold cl
  by_cases e : l[i].toNat = l[j].toNat
  · rw [if_pos e]
    have d : decide ((l[i].toNat : Int) = (l[j].toNat : Int)) = decide ((118 : Int) = 118) := by rw [decide_eq_true (by omega)]; rfl
    rw [c66 g1 g2 r1 r2 d]
  · rw [if_neg e]
    have d : decide ((l[i].toNat : Int) = (l[j].toNat : Int)) = decide ((118 : Int) = 104) := by rw [decide_eq_false (by omega)]; rfl
    rw [c66 g1 g2 s1 s2 d]
def okC (i j : Nat) : Bool := Nat.ble j i || (if tzN (i + 1) = tzN (j + 1) then cl (rep 63) i j == decide ((j - i) / 2 ^ tzN (i + 1) % 4 = 2) && cl (alt j) i j == decide (¬ (j - i) / 2 ^ tzN (i + 1) % 4 = 2) else cl (rep 63) i j == false && cl (alt j) i j == false)
theorem tabC1 : (List.range 20).all (fun i => (List.range 63).all fun j => okC i j) = true := by kernel_rfl
theorem tabC2 : (List.range 20).all (fun i => (List.range 63).all fun j => okC (20 + i) j) = true := by kernel_rfl
theorem tabC3 : (List.range 23).all (fun i => (List.range 63).all fun j => okC (40 + i) j) = true := by kernel_rfl
theorem tabC {i j : Nat} (hi : i < 63) (hj : j < 63) : okC i j = true := by
  rcases Nat.lt_or_ge i 20 with h | h
  · exact List.all_eq_true.1 (List.all_eq_true.1 tabC1 i (List.mem_range.2 h)) j (List.mem_range.2 hj)
  · rcases Nat.lt_or_ge i 40 with h2 | h2
    · have := List.all_eq_true.1 (List.all_eq_true.1 tabC2 (i - 20) (List.mem_range.2 (by omega))) j (List.mem_range.2 hj)
      rwa [show 20 + (i - 20) = i by omega] at this
    · have := List.all_eq_true.1 (List.all_eq_true.1 tabC3 (i - 40) (List.mem_range.2 (by omega))) j (List.mem_range.2 hj)
      rwa [show 40 + (i - 40) = i by omega] at this
theorem cl_is {l : List UInt8} {i j : Nat} (hl : l.length ≤ 63) (hi : i < j) (hj : j < l.length) : cl l i j = decide (tzN (i + 1) = tzN (j + 1) ∧ ((l.getD i 0).toNat = (l.getD j 0).toNat ↔ (j - i) / 2 ^ tzN (i + 1) % 4 = 2)) := by
  have t := tabC (show i < 63 by omega) (show j < 63 by omega)
  unfold okC at t
  rw [bleF hi, Bool.false_or] at t
  rw [cl_eq hl hi hj]
  by_cases a : tzN (i + 1) = tzN (j + 1)
  · rw [if_pos a] at t
    simp only [Bool.and_eq_true, beq_iff_eq] at t
    rw [t.1, t.2]
    by_cases e : (l.getD i 0).toNat = (l.getD j 0).toNat
    · rw [if_pos e]; exact decide_eq_decide.2 ⟨fun h => ⟨a, fun _ => h, fun _ => e⟩, fun h => h.2.1 e⟩
    · rw [if_neg e]; exact decide_eq_decide.2 ⟨fun h => ⟨a, fun w => absurd w e, fun w => absurd w h⟩, fun h w => e (h.2.2 w)⟩
  · rw [if_neg a] at t
    simp only [Bool.and_eq_true, beq_iff_eq] at t
    rw [t.1, t.2, ite_self]
    exact (decide_eq_false fun h => a h.1).symm
def okT (j : Nat) : Bool := let z := tzN (j + 1); Nat.ble z 5 && Nat.beq ((j + 1) % 2 ^ z) 0 && Nat.beq ((j + 1) / 2 ^ z % 2) 1 && Nat.beq (tzN (2 ^ z)) z && Nat.ble (2 ^ z) (j + 1)
theorem tabT : (List.range 63).all okT = true := by kernel_rfl
theorem tz_at {j : Nat} (h : j < 63) : tzN (j + 1) ≤ 5 ∧ (j + 1) % 2 ^ tzN (j + 1) = 0 ∧ (j + 1) / 2 ^ tzN (j + 1) % 2 = 1 ∧ tzN (2 ^ tzN (j + 1)) = tzN (j + 1) ∧ 2 ^ tzN (j + 1) ≤ j + 1 := by
  have t := List.all_eq_true.1 tabT j (List.mem_range.2 h)
  unfold okT at t
  simp only [Bool.and_eq_true] at t
  exact ⟨Nat.le_of_ble_eq_true t.1.1.1.1, Nat.eq_of_beq_eq_true t.1.1.1.2, Nat.eq_of_beq_eq_true t.1.1.2, Nat.eq_of_beq_eq_true t.1.2, Nat.le_of_ble_eq_true t.2⟩
theorem kind_at {r : List UInt8} {j : Nat} (h : j < 2 ^ r.length - 1) : (creasesL r).getD j 0 = kindL r j := by
  have : j < (creasesL r).length := by simp [creasesL]; exact h
  simp [List.getD_eq_getElem?_getD, creasesL, this, h]
theorem creases_len {r : List UInt8} : (creasesL r).length = 2 ^ r.length - 1 := by simp [creasesL]
theorem kind_eq {r : List UInt8} {s t : Nat} (hz : tzN (s + 1) = tzN (t + 1)) : (kindL r s).toNat = (kindL r t).toNat ↔ ((s + 1) / 2 ^ tzN (s + 1) % 4 = 1 ↔ (t + 1) / 2 ^ tzN (s + 1) % 4 = 1) := by
  unfold kindL
  rw [← hz]
  generalize (r.getD (r.length - 1 - tzN (s + 1)) 0 == 111) = b
  by_cases a : (s + 1) / 2 ^ tzN (s + 1) % 4 = 1 <;> by_cases c : (t + 1) / 2 ^ tzN (s + 1) % 4 = 1 <;> cases b <;> simp [a, c]
theorem div_sub {a b q z : Nat} (ha : a + 1 = 2 ^ z * q) {w : Nat} (hb : b + 1 = 2 ^ z * w) (h : a < b) : (b - a) / 2 ^ z = w - q := by
  have e : b - a = 2 ^ z * (w - q) := by rw [Nat.mul_sub]; omega
  rw [e, Nat.mul_div_cancel_left _ (Nat.two_pow_pos z)]
theorem quot_at {j z : Nat} (h : (j + 1) % 2 ^ z = 0) : j + 1 = 2 ^ z * ((j + 1) / 2 ^ z) := by
  have := Nat.div_add_mod (j + 1) (2 ^ z)
  omega
theorem none_clash {r : List UInt8} (hr : r.length ≤ 6) {s t : Nat} (h : s < t) (ht : t < (creasesL r).length) : cl (creasesL r) s t = false := by
  rw [creases_len] at ht
  have h64 : 2 ^ r.length ≤ 64 := Nat.pow_le_pow_right (n := 2) (by decide) hr
  rw [cl_is (by rw [creases_len]; omega) h (by rw [creases_len]; exact ht)]
  refine decide_eq_false fun w => ?_
  obtain ⟨hz, hw⟩ := w
  rw [kind_at (show s < 2 ^ r.length - 1 by omega), kind_at ht, kind_eq hz] at hw
  obtain ⟨_, a1, a2, _, _⟩ := tz_at (show s < 63 by omega)
  obtain ⟨_, b1, b2, _, _⟩ := tz_at (show t < 63 by omega)
  rw [← hz] at b1 b2
  have q1 := quot_at a1
  have q2 := quot_at b1
  rw [div_sub q1 q2 h] at hw
  have hlt : (s + 1) / 2 ^ tzN (s + 1) ≤ (t + 1) / 2 ^ tzN (s + 1) := Nat.div_le_div_right (by omega)
  generalize (s + 1) / 2 ^ tzN (s + 1) = a at hw a2 hlt
  generalize (t + 1) / 2 ^ tzN (s + 1) = b at hw b2 hlt
  by_cases x : a % 4 = 1 <;> by_cases y : b % 4 = 1 <;> simp [x, y] at hw <;> omega
theorem some_clash {c : List UInt8} {k : Nat} (hk : k ≤ 6) (hl : c.length + 1 = 2 ^ k) (hv : ∀ x ∈ c, x = 118 ∨ x = 104) (hne : creasesL (rdF c k) ≠ c) : ∃ s t, s < t ∧ t < c.length ∧ cl c s t = true := by
  have h64 : 2 ^ k ≤ 64 := Nat.pow_le_pow_right (n := 2) (by decide) hk
  have hrl : (rdF c k).length = k := rdF_len
  obtain ⟨j, hj, hd⟩ : ∃ j, j < c.length ∧ kindL (rdF c k) j ≠ c.getD j 0 := by
    apply Classical.byContradiction
    intro w
    apply hne
    refine List.ext_getElem (by rw [creases_len, hrl]; omega) fun i h1 h2 => ?_
    have e : kindL (rdF c k) i = c.getD i 0 := Classical.byContradiction fun q => w ⟨i, h2, q⟩
    have e1 := kind_at (r := rdF c k) (j := i) (by rw [hrl]; omega)
    simp only [List.getD_eq_getElem?_getD, List.getElem?_eq_getElem h1, List.getElem?_eq_getElem h2, Option.getD_some] at e e1
    rw [e1, e]
  obtain ⟨a0, a1, a2, a3, a4⟩ := tz_at (show j < 63 by omega)
  have hzk : tzN (j + 1) < k := (Nat.pow_lt_pow_iff_right (a := 2) (by decide)).1 (Nat.lt_of_le_of_lt a4 (by omega))
  have hlet : ∀ i, i < c.length → c.getD i 0 = 118 ∨ c.getD i 0 = 104 := fun i hi => by
    have : c.getD i 0 = c[i] := by simp [List.getD_eq_getElem?_getD, hi]
    rw [this]; exact hv _ (List.getElem_mem hi)
  have hq := quot_at a1
  have hp : 1 ≤ 2 ^ tzN (j + 1) := Nat.one_le_two_pow
  have hr : (rdF c k).getD ((rdF c k).length - 1 - tzN (j + 1)) 0 = if (c.getD (2 ^ tzN (j + 1) - 1) 0).toNat = 118 then 111 else 117 := by
    rw [hrl]
    have : k - 1 - tzN (j + 1) < k := by omega
    have e : (rdF c k).getD (k - 1 - tzN (j + 1)) 0 = rdU c k (k - 1 - tzN (j + 1)) := by
      simp [List.getD_eq_getElem?_getD, rdF, this]
    rw [e, rdU, show k - 1 - (k - 1 - tzN (j + 1)) = tzN (j + 1) by omega]
  unfold kindL at hd
  rw [hr] at hd
  have hi0 : 2 ^ tzN (j + 1) - 1 < c.length := by omega
  have hA := hlet _ hi0
  have hB := hlet j hj
  generalize hz : tzN (j + 1) = z at *
  have hjz : 2 ^ z - 1 ≠ j := by
    intro e
    have e1 : (j + 1) / 2 ^ z = 1 := by rw [show j + 1 = 2 ^ z by omega, Nat.div_self (by omega)]
    rw [e1] at hd
    rw [e] at hd
    rcases hB with w | w <;> rw [w] at hd <;> simp at hd
  have hlt : 2 ^ z - 1 < j := by omega
  refine ⟨2 ^ z - 1, j, hlt, hj, ?_⟩
  rw [cl_is (by omega) hlt hj]
  have e2 : 2 ^ z - 1 + 1 = 2 ^ z := by omega
  rw [e2, a3, hz]
  refine decide_eq_true ⟨rfl, ?_⟩
  have q0 : 2 ^ z - 1 + 1 = 2 ^ z * 1 := by omega
  rw [div_sub q0 hq hlt]
  generalize (j + 1) / 2 ^ z = b at hd a2
  rcases hA with w | w <;> rcases hB with w' | w' <;> rw [w, w'] at hd <;> rw [w, w'] <;> by_cases x : b % 4 = 1 <;> simp [x] at hd <;> simp <;> omega
def okN (k : Nat) : Bool := ((strs k).all fun s => beqS (foldedL k (numOf s)) s && Nat.blt (numOf s) (2 ^ k)) && (List.range (2 ^ k)).all fun s => Nat.beq (numOf (foldedL k s)) s && decide (checkE (foldedL k s) = 0)
theorem tabN : (List.range 7).all okN = true := by kernel_rfl
theorem num_ok {k : Nat} (hk : k ≤ 6) : (∀ s ∈ strs k, foldedL k (numOf s) = s ∧ numOf s < 2 ^ k) ∧ ∀ s, s < 2 ^ k → numOf (foldedL k s) = s ∧ checkE (foldedL k s) = 0 := by
  have t := List.all_eq_true.1 tabN k (List.mem_range.2 (by omega))
  unfold okN at t
  simp only [Bool.and_eq_true] at t
  refine ⟨fun s hs => ?_, fun s hs => ?_⟩
  · have := List.all_eq_true.1 t.1 s hs
    simp only [Bool.and_eq_true] at this
    exact ⟨beqS_ok this.1, Nat.le_of_ble_eq_true this.2⟩
  · have := List.all_eq_true.1 t.2 s (List.mem_range.2 hs)
    simp only [Bool.and_eq_true, decide_eq_true_eq] at this
    exact ⟨Nat.eq_of_beq_eq_true this.1, this.2⟩
theorem f23_ok {F : Nat} {l : List UInt8} (h : checkE l = 0) : f23S F l = some (creasesL l, 0) := by
  have e : creasesO l = some (creasesL l) := by unfold creasesO; rw [if_pos (check_len h)]
  unfold f23S
  rw [Option.bind_some, h, Option.bind_some, decide_eq_true rfl]
  dsimp only
  rw [e, Option.bind_some]
section
variable {F k : Nat} {c : List UInt8} {K : List UInt8 × Bool → Option Bool}
theorem u8_wrap {n : Nat} (h : n < 256) : IntKind.u8.wrap (n : Int) = n := by
  simp [IntKind.wrap, IntKind.signed, IntKind.bits]
  omega
theorem t9_skip (hk : k ≤ 4) : ∀ (n j : Nat) (v : List UInt8) (b : Bool), j ≤ 2 ^ k → 2 ^ k - j < n → (∀ s, j ≤ s → s < 2 ^ k → creasesL (foldedL k s) ≠ c) → f9_L0 F (k : Int) c ((2 ^ k : Nat) : Int) K n (v, b, (j : Int)) = K (v, b) := by
  intro n
  have h16 : 2 ^ k ≤ 16 := Nat.pow_le_pow_right (n := 2) (by decide) hk
  induction n with
  | zero => intro j v b _ h; omega
  | succ n ih =>
    intro j v b hj hn hP
    rw [f9_L0]
    by_cases h : j < 2 ^ k
    · have h1 : decide ((j : Int) < ((2 ^ k : Nat) : Int)) = true := decide_eq_true (by omega)
      have w := wrap_nat (show j < 1000000000000 by omega)
      have e1 := foldedO_at (m := k) (y := j) (by omega) (by omega)
      rw [Nat.mod_eq_of_lt (by omega)] at e1
      have e2 := f23_ok (F := F) ((num_ok (by omega)).2 j h).2
      have q := ih (j + 1) v b (by omega) (by omega) fun s h1 h2 => hP s (by omega) h2
      simp only [Option.bind_some, h1, u8_wrap (show k < 256 by omega), u8_wrap (show j < 256 by omega), e1, e2, decide_true, decide_eq_false (hP j (Nat.le_refl _) h), w, q]
    · have h1 : decide ((j : Int) < ((2 ^ k : Nat) : Int)) = false := decide_eq_false (by omega)
      simp only [Option.bind_some, h1]
theorem t9_find (hk : k ≤ 4) {s0 : Nat} (hs : s0 < 2 ^ k) (hP : ∀ s, s < 2 ^ k → (creasesL (foldedL k s) = c ↔ s = s0)) : ∀ (n j : Nat) (v : List UInt8), j ≤ s0 → 2 ^ k - j < n → f9_L0 F (k : Int) c ((2 ^ k : Nat) : Int) K n (v, false, (j : Int)) = K (foldedL k s0, true) := by
  intro n
  have h16 : 2 ^ k ≤ 16 := Nat.pow_le_pow_right (n := 2) (by decide) hk
  induction n with
  | zero => intro j v _ h; omega
  | succ n ih =>
    intro j v hj hn
    rw [f9_L0]
    have h : j < 2 ^ k := by omega
    have h1 : decide ((j : Int) < ((2 ^ k : Nat) : Int)) = true := decide_eq_true (by omega)
    have w := wrap_nat (show j < 1000000000000 by omega)
    have e1 := foldedO_at (m := k) (y := j) (by omega) (by omega)
    rw [Nat.mod_eq_of_lt (by omega)] at e1
    have e2 := f23_ok (F := F) ((num_ok (by omega)).2 j h).2
    by_cases e : j = s0
    · have q := t9_skip (F := F) (c := c) (K := K) hk n (j + 1) (foldedL k s0) true (by omega) (by omega) fun s h1 h2 h3 => by
        have := (hP s h2).1 h3
        omega
      subst e
      simp only [Option.bind_some, h1, u8_wrap (show k < 256 by omega), u8_wrap (show j < 256 by omega), e1, e2, decide_true, decide_eq_true ((hP j h).2 rfl), w, q]
    · have q := ih (j + 1) v (by omega) (by omega)
      simp only [Option.bind_some, h1, u8_wrap (show k < 256 by omega), u8_wrap (show j < 256 by omega), e1, e2, decide_true, decide_eq_false (fun w => e ((hP j h).1 w)), w, q]
end
def ok62k (k : Nat) : Bool := match f62S fuel (rep (2 ^ k - 1)), f63S fuel (rep (2 ^ k - 1)) with
  | some (a, b), some d => decide (a = (k : Int)) && decide (b = 0) && decide (d = 0)
  | _, _ => false
theorem tab62k : (List.range 7).all ok62k = true := by kernel_rfl
theorem f62_at {l : List UInt8} {k : Nat} (hk : k ≤ 6) (h : lettersE l 63 118 104 = 0) (hl : l.length + 1 = 2 ^ k) : f62S fuel l = some ((k : Int), 0) ∧ f63S fuel l = some 0 := by
  have h64 : 2 ^ k ≤ 64 := Nat.pow_le_pow_right (n := 2) (by decide) hk
  have e0 : l.length = 2 ^ k - 1 := by omega
  have e1 : f62S fuel l = f62S fuel (rep (2 ^ k - 1)) := by
    unfold f62S
    rw [h, letters_rep (by omega), List.length_replicate, e0]
  have e2 : f63S fuel l = f63S fuel (rep (2 ^ k - 1)) := by
    unfold f63S
    rw [h, letters_rep (by omega), List.length_replicate, e0]
  have t := List.all_eq_true.1 tab62k k (List.mem_range.2 (by omega))
  unfold ok62k at t
  rw [e1, e2]
  revert t
  cases f62S fuel (rep (2 ^ k - 1)) with
  | none => intro t; simp at t
  | some ab =>
    obtain ⟨a, b⟩ := ab
    cases f63S fuel (rep (2 ^ k - 1)) with
    | none => intro t; simp at t
    | some d =>
      intro t
      simp only [Bool.and_eq_true, decide_eq_true_eq] at t
      obtain ⟨⟨rfl, rfl⟩, rfl⟩ := t
      exact ⟨rfl, rfl⟩
theorem letters_vh {l : List UInt8} (hl : l.length ≤ 63) (hv : ∀ x ∈ l, x = 118 ∨ x = 104) : lettersE l 63 118 104 = 0 := by
  unfold lettersE
  rw [if_neg (by omega), if_pos]
  rw [List.all_eq_true]
  intro x hx
  rcases hv x hx with rfl | rfl <;> rfl
theorem creasedL_vh {k y : Nat} : ∀ x ∈ creasedL k y, x = 118 ∨ x = 104 := fun x hx => by
  obtain ⟨i, _, rfl⟩ := List.mem_map.1 hx
  split
  · exact .inr rfl
  · exact .inl rfl
theorem creasedL_len {k y : Nat} : (creasedL k y).length = k := by simp [creasedL]
theorem k9 {k : Nat} (hk : k ≤ 4) : shlO .u8 1 (k : Int) = some ((2 ^ k : Nat) : Int) ∧ IntKind.u8.wrap (((2 ^ k : Nat) : Int) - 1) = ((2 ^ k - 1 : Nat) : Int) ∧ shlO .i64 1 (k : Int) = some ((2 ^ k : Nat) : Int) := by
  have : k = 0 ∨ k = 1 ∨ k = 2 ∨ k = 3 ∨ k = 4 := by omega
  rcases this with rfl | rfl | rfl | rfl | rfl <;> exact ⟨rfl, rfl, rfl⟩
theorem creasedO_at {m y : Nat} (hm : m < 256) : creasedO (m : Int) (y : Int) = some (creasedL (m % 64) y) := by
  show (match Nat.blt m 256 with | true => some (creasedL (m % 64) y) | false => none) = _
  rw [blt_true hm]
theorem tried_law {m y : Nat} (hm : m < 256) : f9S fuel (m : Int) (y : Int) = some true := by
  have hk : m % 5 ≤ 4 := by omega
  have w1 : IntKind.i64.wrap (m : Int) = m := wrap64 (by omega) (by omega)
  have w2 : Int.tmod (m : Int) 5 = ((m % 5 : Nat) : Int) := rfl
  obtain ⟨s1, s2, s3⟩ := k9 hk
  unfold f9S
  rw [Option.bind_some, w1, Option.bind_some, w2]
  generalize m % 5 = k at hk s1 s2 s3
  have h16 : 2 ^ k ≤ 16 := Nat.pow_le_pow_right (n := 2) (by decide) hk
  have h1p : 1 ≤ 2 ^ k := Nat.one_le_two_pow
  have e1 := creasedO_at (m := 2 ^ k - 1) (y := y) (by omega)
  rw [Nat.mod_eq_of_lt (by omega)] at e1
  rw [s1, Option.bind_some, Option.bind_some, s2, e1, Option.bind_some, s3, Option.bind_some]
  have hv := creasedL_vh (k := 2 ^ k - 1) (y := y)
  have hl : (creasedL (2 ^ k - 1) y).length + 1 = 2 ^ k := by rw [creasedL_len]; omega
  generalize creasedL (2 ^ k - 1) y = c at hv hl
  have hle := letters_vh (by omega) hv
  obtain ⟨g1, g2⟩ := f62_at (k := k) (by omega) hle hl
  have q29 := f29_ok g1 (by omega) hl
  have q31 := f31_ok g1 (by omega)
  have hall := all_ok (k := k) (by omega)
  have hnum := num_ok (k := k) (by omega)
  have hrd : ∀ s, s < 2 ^ k → creasesL (foldedL k s) = c → foldedL k s = rdF c k := fun s hs h => by
    have := (hall.2.1 _ (hall.2.2 _ (foldedL_mem (k := k) (y := s)))).2.2
    rw [h] at this
    exact this.symm
  by_cases hc : creasesL (rdF c k) = c
  · have hs0 := hnum.1 _ (rdF_mem (l := c) (k := k))
    have hP : ∀ s, s < 2 ^ k → (creasesL (foldedL k s) = c ↔ s = numOf (rdF c k)) := fun s hs => by
      refine ⟨fun h => ?_, fun h => ?_⟩
      · rw [← hrd s hs h]; exact (hnum.2 s hs).1.symm
      · rw [h, hs0.1]; exact hc
    have q := t9_find (F := fuel) (c := c) (K := fun (v21, b22) =>
    (f29S fuel c).bind fun (s23, x24) =>
    (f31S fuel c).bind fun (x26, x27, x28) =>
    (match b22 with
    | true => ((some (decide (x24 = 0))).bind fun x30 =>
    (match x30 with
    | true => ((some (decide (s23 = v21))).bind fun x31 =>
    (match x31 with
    | true => ((some (decide (x28 = 13))).bind fun x32 =>
    (match x32 with
    | true => ((f17S fuel).bind fun b33 =>
    some b33)
    | false => (some false)))
    | false => (some false)))
    | false => (some false)))
    | false => ((some (decide (x24 = 12))).bind fun x35 =>
    (match x35 with
    | true => ((some (decide (s23 = []))).bind fun x36 =>
    (match x36 with
    | true => ((some (decide (x28 = 0))).bind fun x37 =>
    (match x37 with
    | true => ((f17S fuel).bind fun b38 =>
    some b38)
    | false => (some false)))
    | false => (some false)))
    | false => (some false))))) hk hs0.2 hP fuel 0 [] (by omega) (by rw [fuel_eq]; omega)
    refine Eq.trans q ?_
    dsimp only
    have q13 := why_13 (l := c) fun s t h1 h2 => by
      have := none_clash (r := rdF c k) (by rw [rdF_len]; omega) h1 (by rw [hc]; exact h2)
      rwa [hc] at this
    rw [q29, Option.bind_some, q31, q13, Option.bind_some]
    have ef : foldsL c k = (rdF c k, 0) := by unfold foldsL; rw [if_pos hc]
    rw [ef, hs0.1]
    dsimp only
    rw [Option.bind_some, decide_eq_true rfl]
    dsimp only
    rw [Option.bind_some, decide_eq_true rfl]
    dsimp only
    rw [Option.bind_some, decide_eq_true rfl]
    dsimp only
    rw [works_true]
    rfl
  · have hP : ∀ s, 0 ≤ s → s < 2 ^ k → creasesL (foldedL k s) ≠ c := fun s _ hs h => hc (by rw [← hrd s hs h]; exact h)
    have q := t9_skip (F := fuel) (c := c) (K := fun (v21, b22) =>
    (f29S fuel c).bind fun (s23, x24) =>
    (f31S fuel c).bind fun (x26, x27, x28) =>
    (match b22 with
    | true => ((some (decide (x24 = 0))).bind fun x30 =>
    (match x30 with
    | true => ((some (decide (s23 = v21))).bind fun x31 =>
    (match x31 with
    | true => ((some (decide (x28 = 13))).bind fun x32 =>
    (match x32 with
    | true => ((f17S fuel).bind fun b33 =>
    some b33)
    | false => (some false)))
    | false => (some false)))
    | false => (some false)))
    | false => ((some (decide (x24 = 12))).bind fun x35 =>
    (match x35 with
    | true => ((some (decide (s23 = []))).bind fun x36 =>
    (match x36 with
    | true => ((some (decide (x28 = 0))).bind fun x37 =>
    (match x37 with
    | true => ((f17S fuel).bind fun b38 =>
    some b38)
    | false => (some false)))
    | false => (some false)))
    | false => (some false))))) hk fuel 0 [] false (by omega) (by rw [fuel_eq]; omega) hP
    refine Eq.trans q ?_
    dsimp only
    obtain ⟨s, t, h1, h2, h3⟩ := some_clash (by omega) hl hv hc
    have q0 := why_0 h1 h2 h3
    rw [q29, Option.bind_some, q31, Option.bind_some]
    have ef : foldsL c k = ([], 12) := by unfold foldsL; rw [if_neg hc]
    rw [ef]
    dsimp only
    rw [Option.bind_some, decide_eq_true rfl]
    dsimp only
    rw [Option.bind_some, decide_eq_true rfl]
    dsimp only
    rw [Option.bind_some, q0, decide_eq_true rfl]
    dsimp only
    rw [works_true]
    rfl
theorem quireTried_is {m y : Nat} (hm : m < 256) : E Tryd.prog Y0 9 [.v (.int .u8 m), .v (.int .u64 y)] [] = some (.v (.bool true), [], none) := f9_is (tried_law hm)
end Go.Proofs.YtcjephdjemapbaaDoor

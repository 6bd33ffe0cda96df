/-
  Lists are compared; the search for the times that prove: the plain laws.
  Conditions: none; definitions and lemmas.
-/
import Derived.Test.YtcdhajbhpnbdkaaDoorWhyS
import Derived.Test.YtcdhajbhpnbdkaaDoorBoundsMax
import Derived.Test.YtcdhajbhpnbdkaaDoorEnum
set_option linter.unusedSimpArgs false
set_option linter.unusedVariables false
namespace Go.Proofs.YtcdhajbhpnbdkaaDoor
open Go.Abs Go.Pur
set_option maxRecDepth 100000
section
variable {pages : List Int} {room : Int} {F : Nat}
theorem shl_tab : (List.range 13).all (fun t => decide (shlI .u64 1 (t : Int) = ((2 ^ t : Nat) : Int))) = true := by kernel_rfl
theorem shl_at {t : Nat} (h : t ≤ 12) : shlO .u64 1 (t : Int) = some ((2 ^ t : Nat) : Int) := by
 have := shl_tab
 rw [List.all_eq_true] at this
 have := this t (List.mem_range.2 (by omega))
 rw [shlO_at]
 simpa using this
theorem pow12 {t : Nat} (h : t < 12) : 2 ^ t < 4096 := by
 have : 2 ^ t ≤ 2 ^ 11 := Nat.pow_le_pow_right (by decide) (by omega)
 omega
def cmpL : List Int → List Int → Int
 | [], [] => 0
 | [], _ :: _ => -1
 | _ :: _, [] => 1
 | a :: l, b :: m => if a < b then -1 else if b < a then 1 else cmpL l m
theorem f92_eq {a b : Int} {F : Nat} : f92S F a b = some (if a < b then -1 else if b < a then 1 else 0) := by
 unfold f92S f105S
 simp only [Option.bind_some]
 by_cases h : a < b
 ·simp only [decide_eq_true h, if_pos h]
 ·by_cases h2 : b < a
  ·simp only [decide_eq_false h, decide_eq_true h2, if_neg h, if_pos h2, Option.bind_some]
  ·simp only [decide_eq_false h, decide_eq_false h2, if_neg h, if_neg h2, Option.bind_some]
theorem l54 {a b : List Int} {F : Nat} (ha : a.length ≤ 1000) : ∀ (k i m : Nat), i + k = a.length → k < m → i ≤ b.length → f54_L0 F a b (a.length : Int) (fun _ =>
  (some ((a.length : Int))).bind fun x12 =>
  (some ((b.length : Int))).bind fun x13 =>
  (some (decide (x12 < x13))).bind fun x14 =>
  (match x14 with
  | true => (some (-1))
  | false => (some 0))) m (i : Int) = some (cmpL (a.drop i) (b.drop i))
 | k, i, 0, _, h, _ => by omega
 | 0, i, m + 1, hk, _, hb => by
  rw [f54_L0]
  have h1 : decide ((i : Int) < (a.length : Int)) = false := decide_eq_false (by omega)
  simp only [Option.bind_some, h1]
  rw [List.drop_of_length_le (by omega)]
  by_cases h : a.length < b.length
  ·have e : b.drop i = b[i] :: b.drop (i + 1) := List.drop_eq_getElem_cons (by omega)
   rw [e, decide_eq_true (show (a.length : Int) < b.length by omega)]
   rfl
  ·rw [List.drop_of_length_le (by omega), decide_eq_false (show ¬ (a.length : Int) < b.length by omega)]
   rfl
 | k + 1, i, m + 1, hk, hm, hb => by
  rw [f54_L0]
  have h1 : decide ((i : Int) < (a.length : Int)) = true := decide_eq_true (by omega)
  have hi : i < a.length := by omega
  have w : IntKind.i64.wrap ((i : Int) + 1) = ((i + 1 : Nat) : Int) := wrap_nat (by omega)
  simp only [Option.bind_some, h1, gI_at hi]
  rw [List.drop_eq_getElem_cons hi]
  by_cases h2 : b.length ≤ i
  ·rw [decide_eq_true (show (b.length : Int) ≤ i by omega), List.drop_of_length_le h2]
   rfl
  ·have hj : i < b.length := by omega
   rw [decide_eq_false (show ¬ (b.length : Int) ≤ i by omega), List.drop_eq_getElem_cons hj]
   simp only [gI_at hj, Option.bind_some, f92_eq]
   by_cases c1 : a[i] < b[i]
   ·simp only [if_pos c1, show decide ((-1 : Int) = 0) = false from rfl, cmpL]
   ·by_cases c2 : b[i] < a[i]
    ·simp only [if_neg c1, if_pos c2, show decide ((1 : Int) = 0) = false from rfl, cmpL]
    ·simp only [if_neg c1, if_neg c2, decide_true, w, cmpL]
     exact l54 ha k (i + 1) m (by omega) (by omega) (by omega)
def Best (P : Nat → Prop) (j : Nat) (v : List Int) (b : Bool) : Prop :=
 b = false ∧ v = [] ∧ (∀ s, s < j → ¬ P s) ∨ b = true ∧ ∃ s0, s0 < j ∧ v = bitsL s0 ∧ P s0 ∧ ∀ s, s < j → P s → bitsL s = bitsL s0 ∨ bef (bitsL s0) (bitsL s) = true
theorem Best.skip {P : Nat → Prop} {j : Nat} {v : List Int} {b : Bool} (h : Best P j v b) (hp : P j → b = true ∧ (bitsL j = v ∨ bef v (bitsL j) = true)) : Best P (j + 1) v b := by
 rcases h with ⟨h1, h2, h3⟩ | ⟨h1, s0, h2, h3, h4, h5⟩
 ·refine Or.inl ⟨h1, h2, fun s hs hP => ?_⟩
  rcases Nat.lt_or_ge s j with h | h
  ·exact h3 s h hP
  ·have : s = j := by omega
   subst this
   have := (hp hP).1
   rw [h1] at this; cases this
 ·refine Or.inr ⟨h1, s0, by omega, h3, h4, fun s hs hP => ?_⟩
  rcases Nat.lt_or_ge s j with h | h
  ·exact h5 s h hP
  ·have : s = j := by omega
   subst this
   rw [← h3]
   exact (hp hP).2
theorem Best.take {P : Nat → Prop} {j : Nat} {v : List Int} {b : Bool} (h : Best P j v b) (hP : P j) (hb : b = true → bef (bitsL j) v = true) : Best P (j + 1) (bitsL j) true := by
 refine Or.inr ⟨rfl, j, by omega, rfl, hP, fun s hs hPs => ?_⟩
 rcases Nat.lt_or_ge s j with h' | h'
 ·rcases h with ⟨h1, h2, h3⟩ | ⟨h1, s0, h2, h3, h4, h5⟩
  ·exact absurd hPs (h3 s h')
  ·right
   have := hb h1
   rw [h3] at this
   rcases h5 s h' hPs with e | e
   ·rw [e]; exact this
   ·exact bef_trans this e
 ·have : s = j := by omega
  subst this
  exact Or.inl rfl
end
def errT (n : Nat) : Int → List Int → Int
 | _, [] => 0
 | last, t :: r => if t < 0 ∨ (n : Int) ≤ t then 2 else if t ≤ last then 7 else errT n t r
theorem orI_nat {s x : Nat} (hs : s < 4096) (hx : x < 4096) : orI .u64 (s : Int) (x : Int) = ((s ||| x : Nat) : Int) := by
 have e : (BitVec.ofInt 64 (s : Int) ||| BitVec.ofInt 64 (x : Int)).toNat = s ||| x := by
  rw [BitVec.toNat_or, BitVec.toNat_ofInt, BitVec.toNat_ofInt]
  congr 1
  ·omega
  ·omega
 show IntKind.u64.wrap ((BitVec.ofInt 64 (s : Int) ||| BitVec.ofInt 64 (x : Int)).toNat : Int) = _
 rw [e]
 have : s ||| x < 2 ^ 12 := Nat.or_lt_two_pow (by omega) (by omega)
 exact wrapUC ⟨by omega, by omega⟩
theorem incF_snoc {n t : Nat} : ∀ {l : List Int} {f : Nat}, incF n f l → (∀ x ∈ l, x < (t : Int)) → f ≤ t → t < n → incF n f (l ++ [(t : Int)])
 | [], f, _, _, h1, h2 => ⟨t, rfl, h1, h2, trivial⟩
 | a :: l, f, ⟨u, e, h3, h4, h5⟩, h, h1, h2 => by
  have := h a (by simp)
  exact ⟨u, e, h3, h4, incF_snoc h5 (fun x hx => h x (by simp [hx])) (by omega) h2⟩
theorem bits_snoc {s t : Nat} (hs : s < 4096) (ht : t < 12) (h : ∀ x ∈ bitsL s, x < (t : Int)) : s ||| 2 ^ t < 4096 ∧ bitsL (s ||| 2 ^ t) = bitsL s ++ [(t : Int)] := by
 have hlt : s ||| 2 ^ t < 2 ^ 12 := Nat.or_lt_two_pow (by omega) (by have := pow12 ht; omega)
 refine ⟨by omega, incF_ext (bitsL_inc hlt) (incF_snoc (bitsL_inc (n := 12) (by omega)) h (by omega) ht) fun x => ?_⟩
 rw [bitsL_mem, List.mem_append, bitsL_mem, List.mem_singleton]
 constructor
 ·rintro ⟨n, rfl, h1, h2⟩
  rw [Nat.testBit_or, Nat.testBit_two_pow, Bool.or_eq_true, decide_eq_true_eq] at h2
  rcases h2 with h2 | h2
  ·exact Or.inl ⟨n, rfl, h1, h2⟩
  ·exact Or.inr (by rw [h2])
 ·rintro (⟨n, rfl, h1, h2⟩ | rfl)
  ·exact ⟨n, rfl, h1, by rw [Nat.testBit_or, h2]; rfl⟩
  ·exact ⟨t, rfl, ht, by rw [Nat.testBit_or, Nat.testBit_two_pow]; simp⟩
section
variable {pages T : List Int} {room : Int} {F : Nat}
theorem l86 (hn : pages.length ≤ 12) (hT : T.length ≤ 1000) : ∀ (k i m s : Nat) (last : Int), i + k = T.length → k < m → s < 4096 → bitsL s = T.take i → (∀ x ∈ T.take i, x ≤ last) → -1 ≤ last →
  ∃ r, f86_L0 F pages T (T.length : Int) (fun v16 => some (v16, 0)) m ((s : Int), last, (i : Int)) = some r ∧ r.2 = errT pages.length last (T.drop i) ∧ (r.2 ≠ 0 → r.1 = 0) ∧ (r.2 = 0 → ∃ S : Nat, S < 4096 ∧ r.1 = (S : Int) ∧ bitsL S = T)
 | k, i, 0, s, last, _, h, _, _, _, _ => by omega
 | 0, i, m + 1, s, last, hk, _, hs, hb, hx, hlast => by
  rw [f86_L0]
  have h1 : decide ((i : Int) < (T.length : Int)) = false := decide_eq_false (by omega)
  simp only [Option.bind_some, h1]
  refine ⟨_, rfl, ?_, by simp, fun _ => ⟨s, hs, rfl, ?_⟩⟩
  ·rw [List.drop_of_length_le (by omega)]; rfl
  ·rw [hb, List.take_of_length_le (by omega)]
 | k + 1, i, m + 1, s, last, hk, hm, hs, hb, hx, hlast => by
  rw [f86_L0]
  have h1 : decide ((i : Int) < (T.length : Int)) = true := decide_eq_true (by omega)
  have hi : i < T.length := by omega
  have w : IntKind.i64.wrap ((i : Int) + 1) = ((i + 1 : Nat) : Int) := wrap_nat (by omega)
  simp only [Option.bind_some, h1, gI_at hi]
  rw [List.drop_eq_getElem_cons hi]
  obtain ⟨t, ht⟩ : ∃ t, T[i] = t := ⟨_, rfl⟩
  rw [ht]
  by_cases c1 : t < 0
  ·simp only [decide_eq_true c1]
   exact ⟨_, rfl, by simp [errT, c1], by simp, by simp⟩
  ·by_cases c2 : (pages.length : Int) ≤ t
   ·simp only [decide_eq_false c1, decide_eq_true c2]
    exact ⟨_, rfl, by simp [errT, c2], by simp, by simp⟩
   ·by_cases c3 : t ≤ last
    ·simp only [decide_eq_false c1, decide_eq_false c2, decide_eq_true c3]
     exact ⟨_, rfl, by simp [errT, c1, c2, c3], by simp, by simp⟩
    ·obtain ⟨u, rfl⟩ := Int.eq_ofNat_of_zero_le (show 0 ≤ t by omega)
     obtain ⟨e1, e2⟩ := bits_snoc (t := u) hs (by omega) (fun x hxx => by rw [hb] at hxx; have := hx x hxx; omega)
     have hp := pow12 (show u < 12 by omega)
     simp only [decide_eq_false c1, decide_eq_false c2, decide_eq_false c3, shl_at (show u ≤ 12 by omega), Option.bind_some, orI_nat hs hp, w]
     have htk : T.take (i + 1) = T.take i ++ [(u : Int)] := by rw [List.take_add_one, List.getElem?_eq_getElem hi, ht]; rfl
     obtain ⟨r, h3, h4, h5, h6⟩ := l86 hn hT k (i + 1) m (s ||| 2 ^ u) (u : Int) (by omega) (by omega) e1 (by rw [e2, hb, htk]) (fun x hxx => by
      rw [htk, List.mem_append, List.mem_singleton] at hxx
      rcases hxx with hxx | rfl
      ·have := hx x hxx; omega
      ·exact Int.le_refl _) (by omega)
     refine ⟨r, h3, ?_, h5, h6⟩
     rw [h4]
     simp [errT, c1, c2, c3]
def errA (room : Int) (pages T : List Int) : Int := if chk room pages = 0 then errT pages.length (-1) T else chk room pages
theorem f86_eq (hl : pages.length ≤ 40) (hT : T.length ≤ 1000) (hF : 1000 < F) : ∃ r, f86S F room pages T = some r ∧ r.2 = errA room pages T ∧ (r.2 ≠ 0 → r.1 = 0) ∧ (r.2 = 0 → ∃ S : Nat, S < 4096 ∧ r.1 = (S : Int) ∧ bitsL S = T) := by
 unfold f86S errA
 simp only [onS_at (l := pages) (show pages.length < 1000000000 by omega), Option.bind_some]
 by_cases hc : chk room pages = 0
 ·obtain ⟨hr1, hr2, hn, hpg⟩ := chk_ok hc
  simp only [hc, decide_true, if_true]
  exact l86 hn hT T.length 0 F 0 (-1) (by omega) (by omega) (by decide) (by simp; rfl) (by simp) (by decide)
 ·simp only [decide_eq_false hc, if_neg hc]
  exact ⟨_, rfl, rfl, fun _ => rfl, fun h => absurd h hc⟩
end
end Go.Proofs.YtcdhajbhpnbdkaaDoor

/-
  The walk as drawn, and lanes told by their middles.
  Conditions: none; lemmas.
-/
import Derived.Test.YtcjephdjemapbaaDoorWalked
import Derived.Test.YtcjephdjemapbaaDoorWalksLaw
set_option linter.unusedSimpArgs false
set_option linter.unusedVariables false
namespace Go.Proofs.YtcjephdjemapbaaDoor
open Go.Abs Go.Pur
set_option maxRecDepth 100000
theorem turn_tab : (List.range 600).all (fun m => decide (Int.tmod (m : Int) 2 = ((m % 2 : Nat) : Int)) && decide (IntKind.i64.wrap (1 - mulI .i64 (Int.tmod (IntKind.i64.wrap (Int.tdiv (m : Int) 2)) 2) 2) = if m % 4 < 2 then 1 else -1)) = true := by kernel_rfl
theorem turn_at {m : Nat} (h : m < 600) : Int.tmod (m : Int) 2 = ((m % 2 : Nat) : Int) ∧ IntKind.i64.wrap (1 - mulI .i64 (Int.tmod (IntKind.i64.wrap (Int.tdiv (m : Int) 2)) 2) 2) = if m % 4 < 2 then 1 else -1 := by
 have := turn_tab
 rw [List.all_eq_true] at this
 have := this m (List.mem_range.2 h)
 rw [Bool.and_eq_true] at this
 exact ⟨of_decide_eq_true this.1, of_decide_eq_true this.2⟩
def dU (b : Nat) : Int := if b % 4 = 0 then 1 else if b % 4 = 2 then -1 else 0
def dV (b : Nat) : Int := if b % 4 = 1 then 1 else if b % 4 = 3 then -1 else 0
theorem dir5 {b : Nat} : dU (b + 5) = -dV b ∧ dV (b + 5) = dU b := by
 unfold dU dV
 have : b % 4 = 0 ∨ b % 4 = 1 ∨ b % 4 = 2 ∨ b % 4 = 3 := by omega
 rcases this with h | h | h | h
 ·rw [h, show (b + 5) % 4 = 1 by omega]; decide
 ·rw [h, show (b + 5) % 4 = 2 by omega]; decide
 ·rw [h, show (b + 5) % 4 = 3 by omega]; decide
 ·rw [h, show (b + 5) % 4 = 0 by omega]; decide
theorem dir3 {b : Nat} : dU (b + 3) = dV b ∧ dV (b + 3) = -dU b := by
 unfold dU dV
 have : b % 4 = 0 ∨ b % 4 = 1 ∨ b % 4 = 2 ∨ b % 4 = 3 := by omega
 rcases this with h | h | h | h
 ·rw [h, show (b + 3) % 4 = 3 by omega]; decide
 ·rw [h, show (b + 3) % 4 = 0 by omega]; decide
 ·rw [h, show (b + 3) % 4 = 1 by omega]; decide
 ·rw [h, show (b + 3) % 4 = 2 by omega]; decide
theorem dir_even {m : Nat} (h : m % 2 = 0) : dU m = (if m % 4 < 2 then 1 else -1) ∧ dV m = 0 := by
 unfold dU dV
 have : m % 4 = 0 ∨ m % 4 = 2 := by omega
 rcases this with h | h <;> rw [h] <;> decide
theorem dir_odd {m : Nat} (h : m % 2 = 1) : dV m = (if m % 4 < 2 then 1 else -1) ∧ dU m = 0 := by
 unfold dU dV
 have : m % 4 = 1 ∨ m % 4 = 3 := by omega
 rcases this with h | h <;> rw [h] <;> decide
theorem dir_small {m : Nat} : -1 ≤ dU m ∧ dU m ≤ 1 ∧ -1 ≤ dV m ∧ dV m ≤ 1 := by
 unfold dU dV
 have : m % 4 = 0 ∨ m % 4 = 1 ∨ m % 4 = 2 ∨ m % 4 = 3 := by omega
 rcases this with h | h | h | h <;> rw [h] <;> decide
theorem w44 {F : Nat} {l : List UInt8} {K : Ck × List (Int × Int) × Int × Int → Option ((Ck × List (Int × Int)))} (hK : ∀ c a x y, K (c, a, x, y) = some (c, a)) (hl : l.length ≤ 100) :
  ∀ (n j : Nat) (c : Ck) (acc : List (Int × Int)) (b : Nat) (x y : Int), j ≤ l.length → l.length - j < n → acc.length = j + 2 → -(j : Int) - 1 ≤ x ∧ x ≤ j + 1 ∧ -(j : Int) - 1 ≤ y ∧ y ≤ j + 1 → b ≤ 5 * j →
  f44_L0 F l (l.length : Int) K n (c, acc, (b : Int), (j : Int), x, y) = some (if j < l.length then .nz else c, acc ++ goW (l.drop j) x y (dU b) (dV b)) := by
 intro n
 induction n with
 | zero => intro j c acc b x y hj hn; omega
 | succ n ih =>
  intro j c acc b x y hj hn hacc hb hb5
  rw [f44_L0]
  by_cases h : j < l.length
  ·have h1 : decide ((j : Int) < (l.length : Int)) = true := decide_eq_true (by omega)
   have h2 := gS_at h
   have h3 : l.drop j = l[j] :: l.drop (j + 1) := List.drop_eq_getElem_cons h
   have h4 := wrap_nat (show j < 1000000000000 by omega)
   have hd := @dir_small b
   rw [h3]
   generalize l[j] = e at h2
   have w3 : IntKind.i64.wrap ((b : Int) + 3) = ((b + 3 : Nat) : Int) := by rw [wrap64 (by omega) (by omega)]; omega
   have w5 : IntKind.i64.wrap (((b + 3 : Nat) : Int) + 2) = ((b + 5 : Nat) : Int) := by rw [wrap64 (by omega) (by omega)]; omega
   by_cases e1 : ((e.toNat : Nat) : Int) = 118
   ·have g1 : goW (e :: l.drop (j + 1)) x y (dU b) (dV b) = (x - dV b, y + dU b) :: goW (l.drop (j + 1)) (x - dV b) (y + dU b) (dU (b + 5)) (dV (b + 5)) := by rw [goW, if_pos e1, dir5.1, dir5.2]
    obtain ⟨t1, t2⟩ := turn_at (m := b + 5) (by omega)
    obtain ⟨d1, d2⟩ := @dir5 b
    have q := ih (j + 1) .nz (acc ++ [(x - dV b, y + dU b)]) (b + 5) (x - dV b) (y + dU b) (by omega) (by omega) (by simp [hacc]) (by omega) (by omega)
    rw [if_pos h]
    simp only [h1, h2, h4, Option.bind_some, decide_eq_true e1, w3, w5, t1, t2]
    rcases Nat.mod_two_eq_zero_or_one (b + 5) with hp | hp
    ·obtain ⟨p1, p2⟩ := dir_even hp
     rw [hp, ← p1, d1]
     have w6 : IntKind.i64.wrap (x + -dV b) = x - dV b := by rw [wrap64 (by omega) (by omega)]; omega
     have hy : y = y + dU b := by omega
     simp only [Int.natCast_zero, if_true, w6, app1_at (show acc.length ≤ 1000000 by omega), Option.bind_some]
     rw [← hy] at q g1
     rw [q, g1, List.append_assoc]
     rw [ite_self]
     rfl
    ·obtain ⟨p1, p2⟩ := dir_odd hp
     rw [hp, ← p1, d2]
     have w6 : IntKind.i64.wrap (y + dU b) = y + dU b := by rw [wrap64 (by omega) (by omega)]
     have hx : x = x - dV b := by omega
     simp only [Int.natCast_one, show ¬ ((1 : Int) = 0) by decide, if_false, if_true, w6, app1_at (show acc.length ≤ 1000000 by omega), Option.bind_some]
     rw [← hx] at q g1
     rw [q, g1, List.append_assoc]
     rw [ite_self]
     rfl
   ·have g1 : goW (e :: l.drop (j + 1)) x y (dU b) (dV b) = (x + dV b, y - dU b) :: goW (l.drop (j + 1)) (x + dV b) (y - dU b) (dU (b + 3)) (dV (b + 3)) := by rw [goW, if_neg e1, dir3.1, dir3.2]
    obtain ⟨t1, t2⟩ := turn_at (m := b + 3) (by omega)
    obtain ⟨d1, d2⟩ := @dir3 b
    have q := ih (j + 1) .nz (acc ++ [(x + dV b, y - dU b)]) (b + 3) (x + dV b) (y - dU b) (by omega) (by omega) (by simp [hacc]) (by omega) (by omega)
    rw [if_pos h]
    simp only [h1, h2, h4, Option.bind_some, decide_eq_false e1, w3, w5, t1, t2]
    rcases Nat.mod_two_eq_zero_or_one (b + 3) with hp | hp
    ·obtain ⟨p1, p2⟩ := dir_even hp
     rw [hp, ← p1, d1]
     have w6 : IntKind.i64.wrap (x + dV b) = x + dV b := by rw [wrap64 (by omega) (by omega)]
     have hy : y = y - dU b := by omega
     simp only [Int.natCast_zero, if_true, w6, app1_at (show acc.length ≤ 1000000 by omega), Option.bind_some]
     rw [← hy] at q g1
     rw [q, g1, List.append_assoc]
     rw [ite_self]
     rfl
    ·obtain ⟨p1, p2⟩ := dir_odd hp
     rw [hp, ← p1, d2]
     have w6 : IntKind.i64.wrap (y + -dU b) = y - dU b := by rw [wrap64 (by omega) (by omega)]; omega
     have hx : x = x + dV b := by omega
     simp only [Int.natCast_one, show ¬ ((1 : Int) = 0) by decide, if_false, if_true, w6, app1_at (show acc.length ≤ 1000000 by omega), Option.bind_some]
     rw [← hx] at q g1
     rw [q, g1, List.append_assoc]
     rw [ite_self]
     rfl
  ·have h1 : decide ((j : Int) < (l.length : Int)) = false := decide_eq_false (by omega)
   rw [if_neg h]
   simp only [h1, Option.bind_some, hK]
   rw [List.drop_of_length_le (by omega), goW, List.append_nil]
theorem f44_eq {F : Nat} {l : List UInt8} (hl : l.length ≤ 100) (hF : l.length < F) : f44S F l = some (if 0 < l.length then .nz else .full, walkL l) := by
 unfold f44S
 exact w44 (F := F) (l := l) (K := fun (c52, v53, v54, v55) => some (c52, v53)) (fun _ _ _ _ => rfl) hl F 0 .full [(0, 0), (1, 0)] 0 1 0 (by omega) (by omega) rfl (by omega) (by omega)
def Step (a b : Int × Int) : Prop := (b.2 = a.2 ∧ (b.1 = a.1 + 1 ∨ b.1 = a.1 - 1)) ∨ (b.1 = a.1 ∧ (b.2 = a.2 + 1 ∨ b.2 = a.2 - 1))
def isDir (u v : Int) : Prop := (u = 0 ∧ (v = 1 ∨ v = -1)) ∨ (v = 0 ∧ (u = 1 ∨ u = -1))
theorem goW_step : ∀ {l : List UInt8} {x y u v : Int}, isDir u v → ∀ i, i < l.length → Step (((x, y) :: goW l x y u v).getD i (0, 0)) (((x, y) :: goW l x y u v).getD (i + 1) (0, 0))
 | [], _, _, _, _, _, i, h => by simp at h
 | c :: r, x, y, u, v, hd, i, h => by
  unfold isDir at hd
  rw [goW]
  split
  ·cases i with
   | zero => simp [Step]; omega
   | succ i =>
    have := @goW_step r (x - v) (y + u) (-v) u (by unfold isDir; omega) i (by simpa using h)
    exact this
  ·cases i with
   | zero => simp [Step]; omega
   | succ i =>
    have := @goW_step r (x + v) (y - u) v (-u) (by unfold isDir; omega) i (by simpa using h)
    exact this
theorem walkL_step {l : List UInt8} {i : Nat} (h : i ≤ l.length) : Step ((walkL l).getD i (0, 0)) ((walkL l).getD (i + 1) (0, 0)) := by
 cases i with
 | zero => left; exact ⟨rfl, Or.inl rfl⟩
 | succ i => exact @goW_step l 1 0 1 0 (by unfold isDir; omega) i (by omega)
theorem goW_near : ∀ {l : List UInt8} {x y u v : Int} {n : Int}, isDir u v → -n ≤ x ∧ x ≤ n ∧ -n ≤ y ∧ y ≤ n → ∀ p ∈ goW l x y u v, -(n + l.length) ≤ p.1 ∧ p.1 ≤ n + l.length ∧ -(n + l.length) ≤ p.2 ∧ p.2 ≤ n + l.length
 | [], _, _, _, _, _, _, _, p, h => by simp [goW] at h
 | c :: r, x, y, u, v, n, hd, hb, p, h => by
  unfold isDir at hd
  rw [goW] at h
  simp only [List.length_cons]
  split at h
  ·rcases List.mem_cons.1 h with rfl | h
   ·simp only []; omega
   ·have := @goW_near r (x - v) (y + u) (-v) u (n + 1) (by unfold isDir; omega) (by omega) p h
    omega
  ·rcases List.mem_cons.1 h with rfl | h
   ·simp only []; omega
   ·have := @goW_near r (x + v) (y - u) v (-u) (n + 1) (by unfold isDir; omega) (by omega) p h
    omega
theorem walkL_near {l : List UInt8} (hl : l.length ≤ 100) {i : Nat} : -1000 ≤ ((walkL l).getD i (0, 0)).1 ∧ ((walkL l).getD i (0, 0)).1 ≤ 1000 ∧ -1000 ≤ ((walkL l).getD i (0, 0)).2 ∧ ((walkL l).getD i (0, 0)).2 ≤ 1000 := by
 rw [List.getD_eq_getElem?_getD]
 cases h : (walkL l)[i]? with
 | none => decide
 | some p =>
  have hm := List.mem_of_getElem? h
  simp only [Option.getD_some]
  unfold walkL at hm
  rcases List.mem_cons.1 hm with rfl | hm
  ·decide
  ·rcases List.mem_cons.1 hm with rfl | hm
   ·decide
   ·have := @goW_near l 1 0 1 0 1 (by unfold isDir; omega) (by omega) p hm
    omega
def laneF (W : List (Int × Int)) (i : Nat) : Int × Int := ((W.getD i (0, 0)).1 + (W.getD (i + 1) (0, 0)).1, (W.getD i (0, 0)).2 + (W.getD (i + 1) (0, 0)).2)
theorem lane_clash {l : List UInt8} {i j : Nat} (hi : i ≤ l.length) (hj : j ≤ l.length) : clashB (walkL l) i j = (decide ((laneF (walkL l) i).1 = (laneF (walkL l) j).1) && decide ((laneF (walkL l) i).2 = (laneF (walkL l) j).2)) := by
 have h1 := walkL_step hi
 have h2 := walkL_step hj
 unfold clashB laneF
 generalize (walkL l).getD i (0, 0) = a at *
 generalize (walkL l).getD (i + 1) (0, 0) = b at *
 generalize (walkL l).getD j (0, 0) = c at *
 generalize (walkL l).getD (j + 1) (0, 0) = d at *
 obtain ⟨a1, a2⟩ := a
 obtain ⟨b1, b2⟩ := b
 obtain ⟨c1, c2⟩ := c
 obtain ⟨d1, d2⟩ := d
 unfold Step at h1 h2
 simp only [] at h1 h2 ⊢
 rw [Bool.eq_iff_iff]
 simp only [Bool.or_eq_true, Bool.and_eq_true, decide_eq_true_eq]
 omega
end Go.Proofs.YtcjephdjemapbaaDoor

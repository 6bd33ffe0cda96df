/-
  Bounds of times: the greatest one is the fewest settings; no plan has fewer.
  Conditions: none; definitions and lemmas.
-/
import Derived.Test.YtcdhajbhpnbdkaaDoorDual
set_option linter.unusedSimpArgs false
set_option linter.unusedVariables false
namespace Go.Proofs.YtcdhajbhpnbdkaaDoor
open Go.Abs Go.Pur
set_option maxRecDepth 100000
def fresh (x : Nat) : List (Nat × Bool) → Bool
  | [] => false
  | (q, b) :: r => if q = x then true else if b then false else fresh x r
def unhit : List (Nat × Bool) → Nat
  | [] => 0
  | (p, _) :: r => (fresh p r).toNat + unhit r
def flags : List (Nat × Bool) → Nat
  | [] => 0
  | (_, b) :: r => b.toNat + flags r
def val (k : Int) : List (Nat × Bool) → Nat → Int
  | [], _ => 0
  | (p, b) :: r, H => nb (H.testBit p) + if b then val k r (setB 0 p) - (k - 1) else val k r (setB H p)
def fr (H x : Nat) (l : List (Nat × Bool)) : Nat := (H.testBit x && fresh x l).toNat
def frs (H : Nat) (l : List (Nat × Bool)) : Nat := fr H 0 l + fr H 1 l + fr H 2 l + fr H 3 l + fr H 4 l + fr H 5 l
theorem frs_zero {l : List (Nat × Bool)} : frs 0 l = 0 := by simp [frs, fr]
theorem frs_nil {H : Nat} : frs H [] = 0 := by simp [frs, fr, fresh]
theorem fr_cons {H x p : Nat} {b : Bool} {r : List (Nat × Bool)} : fr H x ((p, b) :: r) = if p = x then (H.testBit x).toNat else if b then 0 else fr H x r := by
  unfold fr
  simp only [fresh]
  split
  · simp
  · split <;> simp
theorem fr_set {H x p : Nat} {r : List (Nat × Bool)} (hH : H < 64) (hp : p < 6) (hx : x < 6) : fr (setB H p) x r = if p = x then (fresh p r).toNat else fr H x r := by
  unfold fr
  rw [set_bit hH hp hx]
  by_cases e : p = x
  · subst e; simp
  · simp [e, Ne.symm e]
theorem frs_set {H p : Nat} {r : List (Nat × Bool)} (hH : H < 64) (hp : p < 6) : frs (setB H p) r + fr H p r = (fresh p r).toNat + frs H r := by
  unfold frs
  rw [fr_set hH hp (by omega), fr_set hH hp (by omega), fr_set hH hp (by omega), fr_set hH hp (by omega), fr_set hH hp (by omega), fr_set hH hp (by omega)]
  rcases six_cases hp with rfl | rfl | rfl | rfl | rfl | rfl <;> simp <;> omega
theorem fr_zero {x : Nat} {r : List (Nat × Bool)} : fr 0 x r = 0 := by simp [fr]
theorem frs_true {H p : Nat} {r : List (Nat × Bool)} (hp : p < 6) : frs H ((p, true) :: r) = (H.testBit p).toNat := by
  unfold frs
  rw [fr_cons, fr_cons, fr_cons, fr_cons, fr_cons, fr_cons]
  rcases six_cases hp with rfl | rfl | rfl | rfl | rfl | rfl <;> simp
theorem val_eq {k : Int} : ∀ (l : List (Nat × Bool)), (∀ x ∈ l, x.1 < 6) → ∀ {H : Nat}, H < 64 → val k l H = l.length - (k - 1) * flags l - unhit l - frs H l
  | [], _, H, hH => by simp [val, flags, unhit, frs_nil]
  | (p, b) :: r, hl, H, hH => by
    have hp : p < 6 := hl (p, b) (by simp)
    have hr : ∀ x ∈ r, x.1 < 6 := fun x hx => hl x (by simp [hx])
    have i1 := val_eq (k := k) r hr (set_lt (show 0 < 64 by decide) hp)
    have i2 := val_eq (k := k) r hr (set_lt hH hp)
    have f := @frs_set H p r hH hp
    have f0 := @frs_set 0 p r (by decide) hp
    rw [fr_zero, frs_zero] at f0
    have f1 := @frs_true H p r hp
    have g : fr H p r ≤ frs H r := by unfold frs; rcases six_cases hp with rfl | rfl | rfl | rfl | rfl | rfl <;> omega
    have f2 : frs H ((p, false) :: r) + fr H p r = (H.testBit p).toNat + frs H r := by
      unfold frs
      rw [fr_cons, fr_cons, fr_cons, fr_cons, fr_cons, fr_cons]
      rcases six_cases hp with rfl | rfl | rfl | rfl | rfl | rfl <;> simp <;> omega
    have e1 : nb (H.testBit p) + (H.testBit p).toNat = 1 := by cases H.testBit p <;> rfl
    simp only [val, flags, unhit, List.length_cons]
    have e2 : (k - 1) * ((flags r + 1 : Nat) : Int) = (k - 1) * flags r + (k - 1) := by rw [Int.natCast_add, Int.mul_add]; simp
    cases b with
    | true =>
      simp only [eq_self, if_true, Bool.toNat_true]
      rw [Nat.add_comm 1, e2, i1]
      omega
    | false =>
      simp only [Bool.false_eq_true, if_false, Bool.toNat_false, Nat.zero_add]
      rw [i2]
      omega
theorem val_le {k : Int} : ∀ (l : List (Nat × Bool)) {H : Nat}, val k l H ≤ bnd k (l.map (·.1)) H
  | [], H => Int.le_refl _
  | (p, b) :: r, H => by
    have i1 := val_le (k := k) r (H := setB 0 p)
    have i2 := val_le (k := k) r (H := setB H p)
    simp only [val, bnd, List.map_cons]
    cases b <;> simp <;> omega
theorem val_max {k : Int} : ∀ (l : List Nat) {H : Nat}, ∃ bs : List Bool, bs.length = l.length ∧ val k (l.zip bs) H = bnd k l H
  | [], H => ⟨[], rfl, rfl⟩
  | p :: r, H => by
    obtain ⟨b1, h1, e1⟩ := val_max (k := k) r (H := setB 0 p)
    obtain ⟨b2, h2, e2⟩ := val_max (k := k) r (H := setB H p)
    rcases Int.le_total (bnd k r (setB H p)) (bnd k r (setB 0 p) - (k - 1)) with h | h
    · refine ⟨true :: b1, by simp [h1], ?_⟩
      simp only [List.zip_cons_cons, val, bnd, e1, if_true]
      omega
    · refine ⟨false :: b2, by simp [h2], ?_⟩
      simp only [List.zip_cons_cons, val, bnd, e2, Bool.false_eq_true, if_false]
      omega
def boundF (k : Int) (l : List (Nat × Bool)) : Int := l.length - (k - 1) * flags l - unhit l
theorem boundF_eq {k : Int} {l : List (Nat × Bool)} (hl : ∀ x ∈ l, x.1 < 6) : boundF k l = val k l 0 := by
  rw [val_eq l hl (by decide), frs_zero]
  unfold boundF
  omega
theorem boundF_le {room : Int} {l : List (Nat × Bool)} (h1 : 1 ≤ room) (hl : ∀ x ∈ l, x.1 < 6) : boundF room l ≤ need room (l.map (·.1)) 0 := by
  rw [boundF_eq hl, need_bnd h1 _ (fun p hp => by obtain ⟨x, hx, rfl⟩ := List.mem_map.1 hp; exact hl x hx) (by decide) (by rw [cnt_zero]; omega)]
  exact val_le l
theorem boundF_max {room : Int} {l : List Nat} (h1 : 1 ≤ room) (hl : ∀ p ∈ l, p < 6) : ∃ bs : List Bool, bs.length = l.length ∧ boundF room (l.zip bs) = need room l 0 := by
  obtain ⟨bs, h, e⟩ := val_max (k := room) l (H := 0)
  refine ⟨bs, h, ?_⟩
  rw [boundF_eq (fun x hx => hl _ (List.of_mem_zip (show (x.1, x.2) ∈ l.zip bs from hx)).1), e, need_bnd h1 l hl (by decide) (by rw [cnt_zero]; omega)]
end Go.Proofs.YtcdhajbhpnbdkaaDoor

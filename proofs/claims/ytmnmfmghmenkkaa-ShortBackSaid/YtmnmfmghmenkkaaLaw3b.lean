/-
  The number of the places and the first of them: the plain law.
  Conditions: none; lemmas.
-/
import Derived.Test.YtmnmfmghmenkkaaLaw3
set_option linter.unusedSimpArgs false
set_option linter.unusedVariables false
namespace Go.Proofs.Ytmnmfmghmenkkaa
open Go.Abs Go.Pur
set_option maxRecDepth 100000
def cnt : List UInt8 → List UInt8 → Nat
 | _, [] => 1
 | [], _ :: _ => 0
 | c :: w, d :: p => (if c = d then cnt w p else 0) + cnt w (d :: p)
theorem cnt_nil {w : List UInt8} : cnt w [] = 1 := by cases w <;> rfl
theorem cnt_le : ∀ (w p : List UInt8), cnt w p ≤ 2 ^ w.length
 | w, [] => by rw [cnt_nil]; exact Nat.one_le_two_pow
 | [], _ :: _ => by simp [cnt]
 | c :: w, d :: p => by
  have h1 := cnt_le w p
  have h2 := cnt_le w (d :: p)
  rw [cnt, List.length_cons, Nat.pow_succ]
  split <;> omega
theorem cnt_snoc {c d : UInt8} : ∀ (w p : List UInt8), cnt (w ++ [c]) (p ++ [d]) = cnt w (p ++ [d]) + if c = d then cnt w p else 0
 | [], [] => by simp [cnt]
 | [], e :: p => by
  have h : ∀ l : List UInt8, cnt [] (l ++ [d]) = 0 := fun l => by cases l <;> rfl
  simp [cnt, h]
 | a :: w, [] => by
  have := cnt_snoc (c := c) (d := d) w []
  simp only [List.nil_append, List.cons_append, cnt, cnt_nil] at this ⊢
  omega
 | a :: w, e :: p => by
  have h1 := cnt_snoc (c := c) (d := d) w p
  have h2 := cnt_snoc (c := c) (d := d) w (e :: p)
  simp only [List.cons_append, cnt] at h1 h2 ⊢
  rw [h2]
  by_cases ha : a = e
  ·simp only [if_pos ha, h1]
   split <;> omega
  ·simp only [if_neg ha]
   split <;> omega
theorem plW_step {w r : List UInt8} {d : UInt8} {f : Nat} (h : f < w.length) : plW w (d :: r) f = (if w[f] = d then (plW w r (f + 1)).map (consC f) else []) ++ plW w (d :: r) (f + 1) := by
 conv => lhs; unfold plW
 rw [show w.length - f = (w.length - (f + 1)) + 1 by omega, List.range'_succ, List.flatMap_cons]
 congr 1
 ·rw [List.getD_eq_getElem?_getD, List.getElem?_eq_getElem h]; rfl
theorem plW_end {w r : List UInt8} {d : UInt8} {f : Nat} (h : w.length ≤ f) : plW w (d :: r) f = [] := by
 unfold plW
 rw [show w.length - f = 0 by omega]
 rfl
theorem plW_cntW {w : List UInt8} : ∀ (m : Nat) (p : List UInt8) (f : Nat), w.length ≤ m + f → (plW w p f).length = cnt (w.drop f) p
 | _, [], f, h => by rw [cnt_nil]; rfl
 | 0, d :: r, f, h => by rw [plW_end (by omega), show w.drop f = [] from List.drop_eq_nil_of_le (by omega)]; rfl
 | m + 1, d :: r, f, h => by
  by_cases hf : f < w.length
  ·rw [plW_step hf, List.drop_eq_getElem_cons hf, cnt, List.length_append, plW_cntW m (d :: r) (f + 1) (by omega)]
   split
   ·rw [List.length_map, plW_cntW m r (f + 1) (by omega)]
   ·rfl
  ·rw [plW_end (by omega), show w.drop f = [] from List.drop_eq_nil_of_le (by omega)]; rfl
def greW : List UInt8 → List UInt8 → Nat → Option (List Int)
 | _, [], _ => some []
 | [], _ :: _, _ => none
 | c :: w, d :: p, f => if c = d then (greW w p (f + 1)).map ((f : Int) :: ·) else greW w (d :: p) (f + 1)
theorem greW_nil {w : List UInt8} {f : Nat} : greW w [] f = some [] := by cases w <;> rfl
theorem cnt_mono {c : UInt8} {w p : List UInt8} : cnt w p ≤ cnt (c :: w) p := by
 cases p with
 | nil => rw [cnt_nil, cnt_nil]; exact Nat.le_refl _
 | cons d p => rw [cnt]; omega
theorem cnt_tail : ∀ (w : List UInt8) {d : UInt8} {p : List UInt8}, cnt w p = 0 → cnt w (d :: p) = 0
 | [], _, _, _ => rfl
 | c :: w, d, p, h => by
  have h1 : cnt w p = 0 := by have := cnt_mono (c := c) (w := w) (p := p); omega
  rw [cnt, h1, cnt_tail w h1]
  simp
theorem plW_head {w : List UInt8} : ∀ (m : Nat) (p : List UInt8) (f : Nat), w.length ≤ m + f → (plW w p f).head?.map (·.2) = greW (w.drop f) p f
 | _, [], f, h => by rw [greW_nil]; rfl
 | 0, d :: r, f, h => by rw [plW_end (by omega), show w.drop f = [] from List.drop_eq_nil_of_le (by omega)]; rfl
 | m + 1, d :: r, f, h => by
  by_cases hf : f < w.length
  ·rw [plW_step hf, List.drop_eq_getElem_cons hf, greW]
   have h1 := plW_head (w := w) m r (f + 1) (by omega)
   have h2 := plW_head (w := w) m (d :: r) (f + 1) (by omega)
   have c1 := plW_cntW (w := w) m r (f + 1) (by omega)
   have c2 := plW_cntW (w := w) m (d :: r) (f + 1) (by omega)
   split
   ·cases hp : plW w r (f + 1) with
    | nil =>
     rw [hp] at h1 c1
     have : plW w (d :: r) (f + 1) = [] := List.length_eq_zero_iff.1 (by rw [c2]; exact cnt_tail _ c1.symm)
     rw [this, ← h1]
     rfl
    | cons q L =>
     rw [hp] at h1
     rw [← h1]
     rfl
   ·exact h2
  ·rw [plW_end (by omega), show w.drop f = [] from List.drop_eq_nil_of_le (by omega)]; rfl
theorem f22_run {F : Nat} {w p : List UInt8} {x4 : List Int} (hw : w.length ≤ 10) (hx : x4 = w.map fun b => (b.toNat : Int)) :
  ∀ (n : Nat) (v : List Int) (k : Nat), w.length + 1 ≤ n + k → k ≤ w.length → v.length ≤ p.length → v.length ≤ k →
   f22_L0 F p x4 w.length (fun v19 =>
    (some ((v19.length : Int))).bind fun x20 =>
    (some ((p.length : Int))).bind fun x21 =>
    (some (decide (x20 < x21))).bind fun x22 =>
    (match x22 with
    | true => (some ((.nz, []), 12))
    | false => (some ((.nz, v19), 0)))) n (v, (k : Int)) = match greW (w.drop k) (p.drop v.length) k with
     | some l => some ((.nz, v ++ l), 0)
     | none => some ((.nz, []), 12)
 | 0, v, k, h, hk, hv, hvk => absurd h (by omega)
 | n + 1, v, k, h, hk, hv, hvk => by
  unfold f22_L0
  simp only [Option.bind_some]
  by_cases hk' : k < w.length
  ·rw [decide_eq_true (show (k : Int) < (w.length : Int) by omega)]
   have hg : gI x4 (k : Int) = some (w[k].toNat : Int) := by
    rw [gI_at (by rw [hx, List.length_map]; exact hk')]
    simp [hx]
   have w1 : IntKind.i64.wrap ((k : Int) + 1) = ((k + 1 : Nat) : Int) := wrap_nat (by omega)
   simp only [hg, Option.bind_some]
   by_cases hv' : v.length < p.length
   ·rw [decide_eq_true (show (v.length : Int) < (p.length : Int) by omega)]
    simp only [gS_at hv', Option.bind_some]
    rw [List.drop_eq_getElem_cons hk', List.drop_eq_getElem_cons hv', greW]
    by_cases hc : w[k] = p[v.length]
    ·rw [decide_eq_true (show ((p[v.length].toNat : Nat) : Int) = (w[k].toNat : Int) by rw [hc]), if_pos hc]
     have ha : app1 v (k : Int) = some (v ++ [(k : Int)]) := by
      unfold app1
      rw [show Nat.ble v.length 1000000 = true from Nat.ble_eq_true_of_le (by omega)]
     simp only [ha, Option.bind_some, w1]
     have ih := f22_run (F := F) (w := w) (p := p) hw hx n (v ++ [(k : Int)]) (k + 1) (by omega) (by omega) (by simp; omega) (by simp; omega)
     simp only [Option.bind_some] at ih
     rw [ih, show (v ++ [(k : Int)]).length = v.length + 1 by simp]
     cases greW (w.drop (k + 1)) (p.drop (v.length + 1)) (k + 1) <;> simp
    ·have hn : ¬ ((p[v.length].toNat : Nat) : Int) = (w[k].toNat : Int) := fun h => hc (UInt8.toNat_inj.1 (by omega))
     rw [decide_eq_false hn, if_neg hc]
     simp only [w1]
     have ih := f22_run (F := F) (w := w) (p := p) hw hx n v (k + 1) (by omega) (by omega) hv (by omega)
     simp only [Option.bind_some] at ih
     rw [ih, List.drop_eq_getElem_cons hv']
   ·rw [decide_eq_false (show ¬ (v.length : Int) < (p.length : Int) by omega)]
    simp only [w1]
    have ih := f22_run (F := F) (w := w) (p := p) hw hx n v (k + 1) (by omega) (by omega) hv (by omega)
    simp only [Option.bind_some] at ih
    rw [ih, show p.drop v.length = [] from List.drop_eq_nil_of_le (by omega), greW_nil, greW_nil]
  ·rw [decide_eq_false (show ¬ (k : Int) < (w.length : Int) by omega)]
   rw [show w.drop k = [] from List.drop_eq_nil_of_le (by omega)]
   simp only []
   by_cases hv' : v.length < p.length
   ·rw [decide_eq_true (show (v.length : Int) < (p.length : Int) by omega), List.drop_eq_getElem_cons hv']
    rfl
   ·rw [decide_eq_false (show ¬ (v.length : Int) < (p.length : Int) by omega), show p.drop v.length = [] from List.drop_eq_nil_of_le (by omega)]
    simp [greW]
def firstW (w p : List UInt8) : (Ck × List Int) × Int := match plW w p 0 with
 | q :: _ => ((.nz, q.2), 0)
 | [] => ((.nz, []), 12)
theorem f22_law {F : Nat} {w p : List UInt8} (hF : 11 ≤ F) (hw : w.length ≤ 10) (h0 : f57S F [w, p] = some 0) : f22S F w p = some (firstW w p) := by
 unfold f22S
 rw [h0]
 have hb : bytO w = some (w.map fun b => (b.toNat : Int)) := by
  unfold bytO
  rw [show Nat.ble w.length 1000000 = true from Nat.ble_eq_true_of_le (by omega)]
 have := f22_run (F := F) (p := p) hw rfl F [] 0 (by omega) (by omega) (by simp) (by simp)
 simp only [Option.bind_some] at this
 simp only [Option.bind_some, hb, List.length_map, decide_true]
 refine Eq.trans this ?_
 have hh := plW_head (w := w) w.length p 0 (by omega)
 simp only [List.drop_zero, List.length_nil] at hh ⊢
 rw [← hh]
 unfold firstW
 cases plW w p 0 <;> rfl
end Go.Proofs.Ytmnmfmghmenkkaa

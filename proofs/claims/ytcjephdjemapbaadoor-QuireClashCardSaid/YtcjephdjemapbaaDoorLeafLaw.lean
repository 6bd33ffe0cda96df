/-
  What the small functions compute: has, same, alike, Equal.
  Conditions: none; lemmas.
-/
import Derived.Test.YtcjephdjemapbaaDoorLeaf
set_option linter.unusedSimpArgs false
set_option linter.unusedVariables false
namespace Go.Proofs.YtcjephdjemapbaaDoor
open Go.Abs Go.Pur
set_option maxRecDepth 100000
theorem gI_at {α : Type} {l : List α} {j : Nat} (h : j < l.length) : gI l (j : Int) = some l[j] := List.getElem?_eq_getElem h
theorem drop_at {α : Type} {l : List α} {j : Nat} (h : j < l.length) : l.drop j = l[j] :: l.drop (j + 1) := List.drop_eq_getElem_cons h
def sameO {α : Type} [DecidableEq α] (a b : List α) : Option Bool := match Nat.ble a.length 1000000 with
 | true => some (decide (a = b))
 | false => none
theorem sameO_ok {α : Type} [DecidableEq α] {a b : List α} {r : Bool} (h : sameO a b = some r) : a.length ≤ 1000000 ∧ decide (a = b) = r := by
 unfold sameO at h
 cases hb : Nat.ble a.length 1000000 with
 | false => simp [hb] at h
 | true =>
  have h1 := Nat.le_of_ble_eq_true hb
  simp [hb] at h
  exact ⟨h1, h⟩
section
variable {F : Nat} {a b : List Int} {K : Unit → Option Bool}
theorem same22_loop (hl : a.length = b.length) (hb : a.length < 1000000000) : ∀ (n j : Nat), j ≤ a.length → a.length - j < n → f22_L0 F a b K n (j : Int) = if a.drop j = b.drop j then K () else some false := by
 intro n
 induction n with
 | zero => intro j hj hn; omega
 | succ n ih =>
  intro j hj hn
  rw [f22_L0]
  by_cases h : j < a.length
  ·have h' : j < b.length := by omega
   have h1 : decide ((j : Int) < (a.length : Int)) = true := decide_eq_true (by omega)
   have h2 := wrap_nat (show j < 1000000000000 by omega)
   have h3 := ih (j + 1) (by omega) (by omega)
   have hm : a.drop j = b.drop j ↔ (a[j] = b[j] ∧ a.drop (j + 1) = b.drop (j + 1)) := by rw [drop_at h, drop_at h', List.cons.injEq]
   by_cases e : a[j] = b[j]
   ·simp only [Option.bind_some, h1, gI_at h, gI_at h', decide_eq_true e, h2, h3]
    by_cases q : a.drop (j + 1) = b.drop (j + 1)
    ·rw [if_pos q, if_pos (hm.2 ⟨e, q⟩)]
    ·rw [if_neg q, if_neg fun w => q (hm.1 w).2]
   ·simp only [Option.bind_some, h1, gI_at h, gI_at h', decide_eq_false e]
    rw [if_neg fun w => e (hm.1 w).1]
  ·have h1 : decide ((j : Int) < (a.length : Int)) = false := decide_eq_false (by omega)
   simp only [Option.bind_some, h1]
   rw [if_pos (by rw [List.drop_of_length_le (by omega : a.length ≤ j), List.drop_of_length_le (by omega : b.length ≤ j)])]
theorem same70_loop {z : Int} (hz : (a.length : Int) = z) (hl : a.length = b.length) (hb : a.length < 1000000000) : ∀ (n j : Nat), j ≤ a.length → a.length - j < n → f70_L0 F a b z K n (j : Int) = if a.drop j = b.drop j then K () else some false := by
 subst hz
 intro n
 induction n with
 | zero => intro j hj hn; omega
 | succ n ih =>
  intro j hj hn
  rw [f70_L0]
  by_cases h : j < a.length
  ·have h' : j < b.length := by omega
   have h1 : decide ((j : Int) < (a.length : Int)) = true := decide_eq_true (by omega)
   have h2 := wrap_nat (show j < 1000000000000 by omega)
   have h3 := ih (j + 1) (by omega) (by omega)
   have hm : a.drop j = b.drop j ↔ (a[j] = b[j] ∧ a.drop (j + 1) = b.drop (j + 1)) := by rw [drop_at h, drop_at h', List.cons.injEq]
   by_cases e : a[j] = b[j]
   ·simp only [Option.bind_some, h1, gI_at h, gI_at h', decide_eq_true e, h2, h3]
    by_cases q : a.drop (j + 1) = b.drop (j + 1)
    ·rw [if_pos q, if_pos (hm.2 ⟨e, q⟩)]
    ·rw [if_neg q, if_neg fun w => q (hm.1 w).2]
   ·simp only [Option.bind_some, h1, gI_at h, gI_at h', decide_eq_false e]
    rw [if_neg fun w => e (hm.1 w).1]
  ·have h1 : decide ((j : Int) < (a.length : Int)) = false := decide_eq_false (by omega)
   simp only [Option.bind_some, h1]
   rw [if_pos (by rw [List.drop_of_length_le (by omega : a.length ≤ j), List.drop_of_length_le (by omega : b.length ≤ j)])]
end
theorem alike_loop {F : Nat} {a b : List (Int × Int)} {K : Unit → Option Bool} (hl : a.length = b.length) (hb : a.length < 1000000000) : ∀ (n j : Nat), j ≤ a.length → a.length - j < n → f39_L0 F a b K n (j : Int) = if a.drop j = b.drop j then K () else some false := by
 intro n
 induction n with
 | zero => intro j hj hn; omega
 | succ n ih =>
  intro j hj hn
  rw [f39_L0]
  by_cases h : j < a.length
  ·have h' : j < b.length := by omega
   have h1 : decide ((j : Int) < (a.length : Int)) = true := decide_eq_true (by omega)
   have h2 := wrap_nat (show j < 1000000000000 by omega)
   have h3 := ih (j + 1) (by omega) (by omega)
   have hm : a.drop j = b.drop j ↔ (a[j] = b[j] ∧ a.drop (j + 1) = b.drop (j + 1)) := by rw [drop_at h, drop_at h', List.cons.injEq]
   by_cases e : a[j] = b[j]
   ·have e1 : (decide (a[j].1 = b[j].1) && decide (a[j].2 = b[j].2)) = true := by rw [e]; simp
    simp only [Option.bind_some, h1, gI_at h, gI_at h', e1, h2, h3]
    by_cases q : a.drop (j + 1) = b.drop (j + 1)
    ·rw [if_pos q, if_pos (hm.2 ⟨e, q⟩)]
    ·rw [if_neg q, if_neg fun w => q (hm.1 w).2]
   ·have e' : (decide (a[j].1 = b[j].1) && decide (a[j].2 = b[j].2)) = false := by
     rw [Bool.and_eq_false_iff, decide_eq_false_iff_not, decide_eq_false_iff_not]
     by_cases q : a[j].1 = b[j].1
     ·exact .inr fun w => e (Prod.ext q w)
     ·exact .inl q
    simp only [Option.bind_some, h1, gI_at h, gI_at h', e']
    rw [if_neg fun w => e (hm.1 w).1]
  ·have h1 : decide ((j : Int) < (a.length : Int)) = false := decide_eq_false (by omega)
   simp only [Option.bind_some, h1]
   rw [if_pos (by rw [List.drop_of_length_le (by omega : a.length ≤ j), List.drop_of_length_le (by omega : b.length ≤ j)])]
theorem same22_is {a0 : Bool} {c0 : Ck} {p0 : List Int} {a1 : Bool} {c1 : Ck} {p1 : List Int} {hp : List (Option (List PV))} {r : Bool} (h : sameO p0 p1 = some r) : E Tryd.prog Y0 22 [.l (ak a0) c0 p0.length (p0.map iv), .l (ak a1) c1 p1.length (p1.map iv)] hp = some (.v (.bool r), hp, none) := by
 obtain ⟨h1, rfl⟩ := sameO_ok h
 refine f22_is (F := p0.length + 1) ?_
 unfold f22S
 by_cases hl : p0.length = p1.length
 ·have q := same22_loop (F := p0.length + 1) (K := fun _ => some true) hl (by omega) (p0.length + 1) 0 (by omega) (by omega)
  rw [show ((0 : Nat) : Int) = 0 from rfl, List.drop_zero, List.drop_zero] at q
  simp only [Option.bind_some]
  rw [decide_eq_true (show (p0.length : Int) = p1.length by omega)]
  simp only []
  rw [q]
  by_cases w : p0 = p1
  ·rw [if_pos w, decide_eq_true w]
  ·rw [if_neg w, decide_eq_false w]
 ·have : ¬ p0 = p1 := fun e => hl (by rw [e])
  have h2 : decide ((p0.length : Int) = (p1.length : Int)) = false := decide_eq_false (by omega)
  simp only [Option.bind_some, h2, decide_eq_false this]
theorem same70_is {a0 : Bool} {c0 : Ck} {p0 : List Int} {a1 : Bool} {c1 : Ck} {p1 : List Int} {hp : List (Option (List PV))} {r : Bool} (h : sameO p0 p1 = some r) : E Tryd.prog Y0 70 [.l (ak a0) c0 p0.length (p0.map iv), .l (ak a1) c1 p1.length (p1.map iv)] hp = some (.v (.bool r), hp, none) := by
 obtain ⟨h1, rfl⟩ := sameO_ok h
 refine f70_is (F := p0.length + 1) ?_
 unfold f70S
 by_cases hl : p0.length = p1.length
 ·simp only [Option.bind_some]
  have := same70_loop (F := p0.length + 1) (K := fun _ => some true) rfl hl (by omega) (p0.length + 1) 0 (by omega) (by omega)
  rw [decide_eq_true (show (p0.length : Int) = p1.length by omega)]
  simp only []
  rw [show ((0 : Nat) : Int) = 0 from rfl, List.drop_zero, List.drop_zero] at this
  rw [this]
  by_cases w : p0 = p1
  ·rw [if_pos w, decide_eq_true w]
  ·rw [if_neg w, decide_eq_false w]
 ·have : ¬ p0 = p1 := fun e => hl (by rw [e])
  have h2 : decide ((p0.length : Int) = (p1.length : Int)) = false := decide_eq_false (by omega)
  simp only [Option.bind_some, h2, decide_eq_false this]
theorem alike_is {a0 : Bool} {c0 : Ck} {p0 : List (Int × Int)} {a1 : Bool} {c1 : Ck} {p1 : List (Int × Int)} {hp : List (Option (List PV))} {r : Bool} (h : sameO p0 p1 = some r) : E Tryd.prog Y0 39 [.l (ak a0) c0 p0.length (rows p0), .l (ak a1) c1 p1.length (rows p1)] hp = some (.v (.bool r), hp, none) := by
 obtain ⟨h1, rfl⟩ := sameO_ok h
 refine f39_is (F := p0.length + 1) ?_
 unfold f39S
 by_cases hl : p0.length = p1.length
 ·have q := alike_loop (F := p0.length + 1) (K := fun _ => some true) hl (by omega) (p0.length + 1) 0 (by omega) (by omega)
  rw [show ((0 : Nat) : Int) = 0 from rfl, List.drop_zero, List.drop_zero] at q
  simp only [Option.bind_some]
  rw [decide_eq_true (show (p0.length : Int) = p1.length by omega)]
  simp only []
  rw [q]
  by_cases w : p0 = p1
  ·rw [if_pos w, decide_eq_true w]
  ·rw [if_neg w, decide_eq_false w]
 ·have : ¬ p0 = p1 := fun e => hl (by rw [e])
  have h2 : decide ((p0.length : Int) = (p1.length : Int)) = false := decide_eq_false (by omega)
  simp only [Option.bind_some, h2, decide_eq_false this]
end Go.Proofs.YtcjephdjemapbaaDoor

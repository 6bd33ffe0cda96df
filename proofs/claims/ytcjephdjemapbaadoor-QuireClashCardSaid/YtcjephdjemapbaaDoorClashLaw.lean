/-
  QuireClash: creases that clash, and one crease the other way round.
  Conditions: none; lemmas.
-/
import Derived.Test.YtcjephdjemapbaaDoorLaw15
import Derived.Test.YtcjephdjemapbaaDoorTriedLaw
set_option linter.unusedSimpArgs false
set_option linter.unusedVariables false
namespace Go.Proofs.YtcjephdjemapbaaDoor
open Go.Abs Go.Pur
set_option maxRecDepth 100000
theorem ccsubT {w : List UInt8} {j : Nat} (h : j ≤ w.length) : subT w (j : Int) = some (w.take j) := by
 show subT w (Int.ofNat j) = _
 simp only [subT]
 rw [Nat.ble_eq_true_of_le h]
theorem ccsubF {w : List UInt8} {j : Nat} (h : j ≤ w.length) : subF w (j : Int) = some (w.drop j) := by
 show subF w (Int.ofNat j) = _
 simp only [subF]
 rw [Nat.ble_eq_true_of_le h]
theorem ccsub2 {w : List UInt8} {a b : Nat} (h1 : a ≤ b) (h2 : b ≤ w.length) : sub2 w (a : Int) (b : Int) = some ((w.take b).drop a) := by
 show sub2 w (Int.ofNat a) (Int.ofNat b) = _
 simp only [sub2]
 rw [Nat.ble_eq_true_of_le h1, Nat.ble_eq_true_of_le h2]
 rfl
theorem ccsadd {a b : List UInt8} (h : a.length + b.length ≤ 1000) : sadd a b = some (a ++ b) := by
 unfold sadd
 rw [Nat.ble_eq_true_of_le (by omega)]
theorem f54_at {l : List UInt8} {a b : Nat} (hl : l.length ≤ 1000) (ha : a < 128) (hb : b < 128) (hv : ∀ x ∈ l, x.toNat < 128) : f54O l (a : Int) (b : Int) = some (l.map (exL a.toUInt8 b.toUInt8)) := by
 have h1 : Nat.ble (bs l).size 1000 = true := Nat.ble_eq_true_of_le (by rw [bs_size]; exact hl)
 have h2 : Nat.blt a 128 = true := Nat.ble_eq_true_of_le ha
 have h3 : Nat.blt b 128 = true := Nat.ble_eq_true_of_le hb
 have h4 : ((bs l).data.toList.all fun x => Nat.blt x.toNat 128) = true := by
  rw [List.all_eq_true]
  intro x hx
  exact Nat.ble_eq_true_of_le (hv x (by simpa using hx))
 show txtO (match Nat.ble (bs l).size 1000, Nat.blt a 128, Nat.blt b 128, (bs l).data.toList.all fun x => Nat.blt x.toNat 128 with
  | true, true, true, true => some [.p (.string ⟨((bs l).data.toList.map (exL a.toUInt8 b.toUInt8)).toArray⟩)]
  | _, _, _, _ => none) = _
 rw [h1, h2, h3, h4]
 simp [txtO]
theorem turn_set {c : List UInt8} {i : Nat} {f : UInt8 → UInt8} (h : i < c.length) : c.take i ++ ((c.take (i + 1)).drop i).map f ++ c.drop (i + 1) = c.set i (f c[i]) := by
 rw [List.take_add_one, List.getElem?_eq_getElem h, Option.toList_some]
 have : (c.take i ++ [c[i]]).drop i = [c[i]] := by
  rw [List.drop_append_of_le_length (by simp; omega), List.drop_take_self]
  rfl
 rw [this, List.set_eq_take_append_cons_drop, if_pos h]
 simp
def ok49p (n : Nat) : Bool := Nat.beq n 0 || match f49S fuel (n : Int) with
 | some e => decide (e = ((2 ^ tzN n : Nat) : Int))
 | none => false
theorem tab49p : (List.range 65).all ok49p = true := by kernel_rfl
theorem f49_pow {n : Nat} (h : n ≤ 64) (h0 : n ≠ 0) : f49S fuel (n : Int) = some ((2 ^ tzN n : Nat) : Int) := by
 have t := List.all_eq_true.1 tab49p n (List.mem_range.2 (by omega))
 unfold ok49p at t
 rw [beqF h0, Bool.false_or] at t
 cases e : f49S fuel (n : Int) with
 | none => rw [e] at t; cases t
 | some a => rw [e] at t; rw [of_decide_eq_true t]
abbrev Fo := Option (Nat × Nat)
def fo1 : Fo → Int
 | none => -1
 | some (a, _) => a
def fo2 : Fo → Int
 | none => -1
 | some (_, b) => b
def orJ (o : Fo) (i : Nat) (r : Option Nat) : Fo := match o with
 | some p => some p
 | none => r.map fun j => (i, j)
def orI (o : Fo) (r : Fo) : Fo := match o with
 | some p => some p
 | none => r
section
variable {l : List UInt8} {at' : Int} {k : Int}
theorem proves_in (hs : f62S fuel l = some (k, 0)) (hl : l.length ≤ 63) {i j : Nat} (hi : i < j) (hj : j < l.length) : f33S fuel l (i : Int) (j : Int) = some (if cl l i j = true then 0 else 14) := by
 have q1 := (clash_ok hl hi hj).1
 unfold f33S
 simp only [hs, Option.bind_some, decide_true, decide_eq_false (show ¬ min (i : Int) (j : Int) < 0 by omega), decide_eq_false (show ¬ (l.length : Int) ≤ max (i : Int) (j : Int) by omega), decide_eq_false (show ¬ (j : Int) ≤ i by omega), q1]
 cases cl l i j <;> rfl
theorem quo_at {a b : Nat} (hb : 0 < b) (ha : a < 1000) : quoO .i64 (a : Int) (b : Int) = some ((a / b : Nat) : Int) := by
 have h := Nat.div_le_self a b
 unfold quoO
 rw [decide_eq_false (by omega)]
 have : Int.tdiv (a : Int) (b : Int) = ((a / b : Nat) : Int) := rfl
 rw [this]
 dsimp only
 generalize a / b = q at h
 rw [wrap64 (by omega) (by omega)]
theorem clash_said (hl : l.length ≤ 63) {i j : Nat} (hi : i < j) (hj : j < l.length) (hz : tzN (i + 1) = tzN (j + 1)) :
  (decide ((l[i].toNat : Int) = (l[j].toNat : Int)) != decide (Int.tmod (((j - i) / 2 ^ tzN (i + 1) : Nat) : Int) 4 = 0)) = cl l i j := by
 rw [cl_is hl hi hj]
 have d1 : l.getD i 0 = l[i] := by simp [List.getD_eq_getElem?_getD, show i < l.length by omega]
 have d2 : l.getD j 0 = l[j] := by simp [List.getD_eq_getElem?_getD, hj]
 rw [d1, d2]
 obtain ⟨_, a1, a2, _, _⟩ := tz_at (show i < 63 by omega)
 obtain ⟨_, b1, b2, _, _⟩ := tz_at (show j < 63 by omega)
 rw [← hz] at b1 b2
 rw [div_sub (quot_at a1) (quot_at b1) hi]
 have hlt : (i + 1) / 2 ^ tzN (i + 1) ≤ (j + 1) / 2 ^ tzN (i + 1) := Nat.div_le_div_right (by omega)
 generalize (i + 1) / 2 ^ tzN (i + 1) = a at a2 hlt
 generalize (j + 1) / 2 ^ tzN (i + 1) = b at b2 hlt
 have e : Int.tmod ((b - a : Nat) : Int) 4 = (((b - a) % 4 : Nat) : Int) := rfl
 rw [e]
 by_cases x : l[i].toNat = l[j].toNat
 ·by_cases y : (b - a) % 4 = 0
  ·rw [decide_eq_true (by omega), decide_eq_true (by omega), decide_eq_false (by omega)]; rfl
  ·rw [decide_eq_true (by omega), decide_eq_false (by omega), decide_eq_true ⟨hz, by omega⟩]; rfl
 ·by_cases y : (b - a) % 4 = 0
  ·rw [decide_eq_false (by omega), decide_eq_true (by omega), decide_eq_true ⟨hz, by omega⟩]; rfl
  ·rw [decide_eq_false (by omega), decide_eq_false (by omega), decide_eq_false (by omega)]; rfl
theorem cl_other (hl : l.length ≤ 63) {i j : Nat} (hi : i < j) (hj : j < l.length) (hz : tzN (i + 1) ≠ tzN (j + 1)) : cl l i j = false := by
 rw [cl_is hl hi hj]
 exact decide_eq_false fun h => hz h.1
theorem f15_pair {F : Nat} {K : Int × Int → Option Bool} (hF : F = fuel) (hs : f62S fuel l = some (k, 0)) (hl : l.length ≤ 63) {i : Nat} : ∀ (n m j : Nat) (o : Fo), m + j = l.length → i < j → m < n →
  f15_L1 F at' l (i : Int) K n (fo1 o, fo2 o, (j : Int)) = K (fo1 (orJ o i (scJ (cl l) i m j)), fo2 (orJ o i (scJ (cl l) i m j))) := by
 intro n
 induction n with
 | zero => intro m j o _ _ h; omega
 | succ n ih =>
  intro m j o hm hij hn
  rw [f15_L1]
  cases m with
  | zero =>
   have h1 : decide ((j : Int) < (l.length : Int)) = false := decide_eq_false (by omega)
   rw [Option.bind_some, Option.bind_some, h1]
   cases o <;> rfl
  | succ m =>
   have hj : j < l.length := by omega
   have h1 : decide ((j : Int) < (l.length : Int)) = true := decide_eq_true (by omega)
   have w1 := wrap_nat (show i < 1000000000000 by omega)
   have w2 := wrap_nat (show j < 1000000000000 by omega)
   have p1 := f49_pow (n := i + 1) (by omega) (by omega)
   have p2 := f49_pow (n := j + 1) (by omega) (by omega)
   have hpr := proves_in hs hl hij hj
   have ih1 := fun o => ih m (j + 1) o (by omega) (by omega) (by omega)
   subst hF
   rw [Option.bind_some, Option.bind_some, h1]
   dsimp only
   rw [w1, Option.bind_some, p1, Option.bind_some, w2, Option.bind_some, p2, Option.bind_some, Option.bind_some]
   have hnone : ∀ o : Fo, cl l i j = false → orJ o i (scJ (cl l) i (m + 1) j) = orJ o i (scJ (cl l) i m (j + 1)) := fun o h => by rw [scJ, h]
   have hsome : ∀ o : Fo, cl l i j = true → orJ (orI o (some (i, j))) i (scJ (cl l) i m (j + 1)) = orJ o i (scJ (cl l) i (m + 1) j) := fun o h => by
    rw [scJ, h]
    cases o <;> rfl
   by_cases hz : tzN (i + 1) = tzN (j + 1)
   ·rw [decide_eq_true (by rw [hz])]
    dsimp only
    have hsub : IntKind.i64.wrap ((j : Int) - (i : Int)) = ((j - i : Nat) : Int) := by rw [wrap64 (by omega) (by omega)]; omega
    rw [gS_at (l := l) (show i < l.length by omega), Option.bind_some, gS_at hj, Option.bind_some, Option.bind_some, Option.bind_some, hsub, quo_at (Nat.two_pow_pos _) (by omega), Option.bind_some, Option.bind_some, Option.bind_some, Option.bind_some, clash_said hl hij hj hz]
    cases hc : cl l i j with
    | true =>
     rw [hc, if_pos rfl] at hpr
     dsimp only
     have e14 : decide ((0 : Int) = 0) = true := rfl
     have hq := ih1 (orI o (some (i, j)))
     rw [hsome o hc] at hq
     cases o with
     | none =>
      rw [Option.bind_some, show decide (fo1 none < 0) = true from rfl]
      dsimp only
      rw [Option.bind_some]
      cases decide ((i : Int) = at') with
      | true =>
       dsimp only
       rw [hpr, Option.bind_some, Option.bind_some, e14]
       exact hq
      | false =>
       dsimp only
       rw [Option.bind_some]
       cases decide ((j : Int) = at') with
       | true =>
        dsimp only
        rw [hpr, Option.bind_some, Option.bind_some, e14]
        exact hq
       | false => exact hq
     | some p =>
      obtain ⟨a, b⟩ := p
      rw [Option.bind_some, show decide (fo1 (some (a, b)) < 0) = false from decide_eq_false (by show ¬ ((a : Int) < 0); omega)]
      dsimp only
      rw [Option.bind_some]
      cases decide ((i : Int) = at') with
      | true =>
       dsimp only
       rw [hpr, Option.bind_some, Option.bind_some, e14]
       exact hq
      | false =>
       dsimp only
       rw [Option.bind_some]
       cases decide ((j : Int) = at') with
       | true =>
        dsimp only
        rw [hpr, Option.bind_some, Option.bind_some, e14]
        exact hq
       | false => exact hq
    | false =>
     rw [hc, if_neg (by decide)] at hpr
     have e14 : decide ((14 : Int) = 14) = true := rfl
     have hq := ih1 o
     rw [← hnone o hc] at hq
     dsimp only
     rw [Option.bind_some]
     cases decide ((i : Int) = at') with
     | true =>
      dsimp only
      rw [hpr, Option.bind_some, Option.bind_some, e14]
      exact hq
     | false =>
      dsimp only
      rw [Option.bind_some]
      cases decide ((j : Int) = at') with
      | true =>
       dsimp only
       rw [hpr, Option.bind_some, Option.bind_some, e14]
       exact hq
      | false => exact hq
   ·have hne : ¬ (((2 ^ tzN (i + 1) : Nat) : Int) = ((2 ^ tzN (j + 1) : Nat) : Int)) := fun e => hz ((Nat.pow_right_inj (by decide)).1 (Int.ofNat_inj.1 e))
    rw [decide_eq_false hne]
    have hc := cl_other hl hij hj hz
    rw [hc, if_neg (by decide)] at hpr
    have e14 : decide ((14 : Int) = 14) = true := rfl
    have hq := ih1 o
    rw [← hnone o hc] at hq
    dsimp only
    rw [Option.bind_some]
    cases decide ((i : Int) = at') with
    | true =>
     dsimp only
     rw [hpr, Option.bind_some, Option.bind_some, e14]
     exact hq
    | false =>
     dsimp only
     rw [Option.bind_some]
     cases decide ((j : Int) = at') with
     | true =>
      dsimp only
      rw [hpr, Option.bind_some, Option.bind_some, e14]
      exact hq
     | false => exact hq
theorem f15_pairs {K : Int × Int → Option Bool} (hs : f62S fuel l = some (k, 0)) (hl : l.length ≤ 63) : ∀ (n m i : Nat) (o : Fo), m + i = l.length → m < n →
  f15_L0 fuel at' l (l.length : Int) K n (fo1 o, fo2 o, (i : Int)) = K (fo1 (orI o (scI (cl l) m i)), fo2 (orI o (scI (cl l) m i))) := by
 intro n
 induction n with
 | zero => intro m i o _ h; omega
 | succ n ih =>
  intro m i o hm hn
  rw [f15_L0]
  cases m with
  | zero =>
   have h1 : decide ((i : Int) < (l.length : Int)) = false := decide_eq_false (by omega)
   rw [Option.bind_some, h1]
   cases o <;> rfl
  | succ m =>
   have h1 : decide ((i : Int) < (l.length : Int)) = true := decide_eq_true (by omega)
   have w1 := wrap_nat (show i < 1000000000000 by omega)
   rw [Option.bind_some, h1]
   dsimp only
   rw [w1, Option.bind_some, f15_pair rfl hs hl fuel m (i + 1) o (by omega) (by omega) (by rw [fuel_eq]; omega)]
   dsimp only
   rw [Option.bind_some, ih m (i + 1) _ (by omega) (by omega), scI]
   cases o with
   | some p => rfl
   | none => cases scJ (cl l) i m (i + 1) <;> rfl
end
def okO (k i : Nat) : Bool := Nat.beq (i + 1) (2 ^ (k - 1)) || Nat.ble (2 ^ k) (i + 1) || (List.range (2 ^ k - 1)).any fun j => !(Nat.beq j i) && Nat.beq (tzN (j + 1)) (tzN (i + 1))
theorem tabO : (List.range 7).all (fun k => (List.range 63).all (okO k)) = true := by kernel_rfl
theorem other_at {k i : Nat} (hk : k ≤ 6) (hi : i + 1 < 2 ^ k) (hm : i + 1 ≠ 2 ^ (k - 1)) : ∃ j, j + 1 < 2 ^ k ∧ j ≠ i ∧ tzN (j + 1) = tzN (i + 1) := by
 have h64 : 2 ^ k ≤ 64 := Nat.pow_le_pow_right (n := 2) (by decide) hk
 have t := List.all_eq_true.1 (List.all_eq_true.1 tabO k (List.mem_range.2 (by omega))) i (List.mem_range.2 (by omega))
 unfold okO at t
 rw [beqF hm, bleF hi, Bool.false_or, Bool.false_or, List.any_eq_true] at t
 obtain ⟨j, h1, h2⟩ := t
 rw [Bool.and_eq_true] at h2
 have h1 := List.mem_range.1 h1
 refine ⟨j, by omega, fun e => ?_, Nat.eq_of_beq_eq_true h2.2⟩
 rw [e, Nat.beq_refl] at h2
 exact Bool.noConfusion h2.1
theorem turned_clash {s : List UInt8} {i : Nat} {x : UInt8} (hs6 : s.length ≤ 6) (hi : i < (creasesL s).length) (hx : ¬ x.toNat = (creasesL s)[i].toNat) (hv : ∀ y ∈ creasesL s, y = 118 ∨ y = 104) (hx2 : x = 118 ∨ x = 104) (hm : i + 1 ≠ 2 ^ (s.length - 1)) :
  ∃ a b, a < b ∧ b < (creasesL s).length ∧ cl ((creasesL s).set i x) a b = true := by
 have h64 : 2 ^ s.length ≤ 64 := Nat.pow_le_pow_right (n := 2) (by decide) hs6
 have hL := creases_len (r := s)
 have h1p : 1 ≤ 2 ^ s.length := Nat.one_le_two_pow
 obtain ⟨j, j1, j2, j3⟩ := other_at hs6 (by omega) hm
 have hnc := fun a b => @none_clash s hs6 a b
 generalize creasesL s = c at *
 have key : ∀ a b, a < b → b < c.length → (a = i ∨ b = i) → tzN (a + 1) = tzN (b + 1) → cl (c.set i x) a b = true := by
  intro a b hab hb hor hz
  have n1 := hnc a b hab hb
  rw [cl_is (by omega) hab hb] at n1
  rw [cl_is (by rw [List.length_set]; omega) hab (by rw [List.length_set]; exact hb)]
  have n1 := of_decide_eq_false n1
  refine decide_eq_true ⟨hz, ?_⟩
  have ga : c.getD a 0 = c[a] := by simp [List.getD_eq_getElem?_getD, show a < c.length by omega]
  have gb : c.getD b 0 = c[b] := by simp [List.getD_eq_getElem?_getD, hb]
  have sa : (c.set i x).getD a 0 = if i = a then x else c[a] := by
   rw [List.getD_eq_getElem?_getD, List.getElem?_eq_getElem (by rw [List.length_set]; omega), Option.getD_some, List.getElem_set]
  have sb : (c.set i x).getD b 0 = if i = b then x else c[b] := by
   rw [List.getD_eq_getElem?_getD, List.getElem?_eq_getElem (by rw [List.length_set]; omega), Option.getD_some, List.getElem_set]
  rw [ga, gb] at n1
  rw [sa, sb]
  have va := hv _ (List.getElem_mem (show a < c.length by omega))
  have vb := hv _ (List.getElem_mem hb)
  have n2 : ¬ (c[a].toNat = c[b].toNat ↔ (b - a) / 2 ^ tzN (a + 1) % 4 = 2) := fun w => n1 ⟨hz, w⟩
  rcases hor with e | e
  ·subst e
   rw [if_pos rfl, if_neg (by omega)]
   rcases hx2 with q | q <;> rcases va with q1 | q1 <;> rcases vb with q2 | q2 <;> rw [q1] at hx <;> rw [q] at hx <;> rw [q1, q2] at n2 <;> rw [q, q2] <;> simp at hx <;> simp at n2 ⊢ <;> exact n2
  ·subst e
   rw [if_neg (by omega), if_pos rfl]
   rcases hx2 with q | q <;> rcases va with q1 | q1 <;> rcases vb with q2 | q2 <;> rw [q2] at hx <;> rw [q] at hx <;> rw [q1, q2] at n2 <;> rw [q, q1] <;> simp at hx <;> simp at n2 ⊢ <;> exact n2
 rcases Nat.lt_or_ge i j with h | h
 ·exact ⟨i, j, h, by omega, key i j h (by omega) (.inl rfl) j3.symm⟩
 ·exact ⟨j, i, by omega, hi, key j i (by omega) hi (.inr rfl) j3⟩
def exF : List UInt8 → List UInt8
 | [] => []
 | c :: r => exL 111 117 c :: r
def okMid (s : List UInt8) : Bool := match s with
 | [] => true
 | _ :: _ => beqS ((creasesL s).set (2 ^ (s.length - 1) - 1) (exL 118 104 ((creasesL s).getD (2 ^ (s.length - 1) - 1) 0))) (creasesL (exF s)) && beqS (rdF (creasesL (exF s)) s.length) (exF s)
theorem mid_0 : (strs 0).all okMid = true := by kernel_rfl
theorem mid_1 : (strs 1).all okMid = true := by kernel_rfl
theorem mid_2 : (strs 2).all okMid = true := by kernel_rfl
theorem mid_3 : (strs 3).all okMid = true := by kernel_rfl
theorem mid_4 : (strs 4).all okMid = true := by kernel_rfl
theorem mid_5 : (((strs 5).drop 0).take 32).all okMid = true := by kernel_rfl
theorem mid_6 : (((strs 6).drop 0).take 64).all okMid = true := by kernel_rfl
theorem mid_all {l : List UInt8} (h : checkE l = 0) : okMid l = true := all_of mid_0 mid_1 mid_2 mid_3 mid_4 mid_5 mid_6 h
theorem check_folC {k y : Nat} (hk : k ≤ 6) : checkE (foldedL k y) = 0 := by
 unfold checkE lettersE
 rw [if_neg (by simp [foldedL]; omega), if_pos]
 rw [List.all_eq_true]
 intro c hc
 obtain ⟨i, _, rfl⟩ := List.mem_map.1 hc
 split <;> rfl
theorem creasesC_vh {l : List UInt8} : ∀ x ∈ creasesL l, x = 118 ∨ x = 104 := fun x hx => by
 obtain ⟨i, _, rfl⟩ := List.mem_map.1 hx
 unfold kindL
 split
 ·exact Or.inl rfl
 ·exact Or.inr rfl
theorem exL_vh {x : UInt8} (h : x = 118 ∨ x = 104) : (exL 118 104 x = 118 ∨ exL 118 104 x = 104) ∧ ¬ (exL 118 104 x).toNat = x.toNat := by
 rcases h with rfl | rfl <;> decide
def f15K (x1 x29 : List UInt8) : Int × Int → Option Bool := fun (v92, v93) =>
  (f31S fuel x29).bind fun (x94, x95, x96) =>
  (f29S fuel x29).bind fun (s98, x99) =>
  (some (decide (v92 < 0))).bind fun x101 =>
  (match x101 with
  | true => ((some (decide (x96 = 13))).bind fun x102 =>
  (match x102 with
  | true => ((some (decide (x99 = 0))).bind fun x103 =>
  (match x103 with
  | true => ((subT x1 1).bind fun x104 =>
  (f54O x104 111 117).bind fun x105 =>
  (subF x1 1).bind fun x106 =>
  (sadd x105 x106).bind fun x107 =>
  (some (decide (s98 = x107))).bind fun x108 =>
  (match x108 with
  | true => ((f17S fuel ).bind fun b109 =>
  some b109)
  | false => (some false)))
  | false => (some false)))
  | false => (some false)))
  | false => ((some (decide (x96 = 0))).bind fun x111 =>
  (match x111 with
  | true => ((some (decide (x94 = v92))).bind fun x112 =>
  (match x112 with
  | true => ((some (decide (x95 = v93))).bind fun x113 =>
  (match x113 with
  | true => ((some (decide (x99 = 12))).bind fun x114 =>
  (match x114 with
  | true => ((some (decide (s98 = []))).bind fun x115 =>
  (match x115 with
  | true => ((f17S fuel ).bind fun b116 =>
  some b116)
  | false => (some false)))
  | false => (some false)))
  | false => (some false)))
  | false => (some false)))
  | false => (some false))))
theorem clash_fin {s bad : List UInt8} {i : Nat} (he : creasesL s ≠ []) (hs6 : s.length ≤ 6) (hch : checkE s = 0) (hb1 : bad.length + 1 = 2 ^ s.length) (hbv : ∀ x ∈ bad, x = 118 ∨ x = 104) (hcla : i + 1 ≠ 2 ^ (s.length - 1) → ∃ a b, a < b ∧ b < bad.length ∧ cl bad a b = true)
  (hmd : i + 1 = 2 ^ (s.length - 1) → bad = creasesL (exF s) ∧ rdF (creasesL (exF s)) s.length = exF s) : f15_L0 fuel (i : Int) bad (bad.length : Int) (f15K s bad) fuel (-1, -1, 0) = some true := by
 have h64 : 2 ^ s.length ≤ 64 := Nat.pow_le_pow_right (n := 2) (by decide) hs6
 have hb63 : bad.length ≤ 63 := by omega
 have hlet2 := letters_vh (l := bad) hb63 hbv
 obtain ⟨b1, b2⟩ := f62_at (l := bad) hs6 hlet2 hb1
 have q31 := f31_ok b1 hb63
 have q29 := f29_ok b1 hs6 hb1
 have hfu : bad.length < fuel := by rw [fuel_eq]; omega
 refine Eq.trans (f15_pairs (at' := (i : Int)) (K := f15K s bad) b1 hb63 fuel bad.length 0 none (Nat.add_zero _) hfu) ?_
 show f15K s bad (fo1 (scI (cl bad) bad.length 0), fo2 (scI (cl bad) bad.length 0)) = some true
 unfold f15K
 dsimp only
 rw [q31, Option.bind_some]
 unfold whyL
 cases hsc : scI (cl bad) bad.length 0 with
 | none =>
  dsimp only
  rw [q29, Option.bind_some]
  have hmidi : i + 1 = 2 ^ (s.length - 1) := Classical.byContradiction fun h => by
   obtain ⟨a, b, h1, h2, h3⟩ := hcla h
   exact scI_some bad.length 0 a b (by omega) h1 (by omega) h3 hsc
  obtain ⟨m1, m2⟩ := hmd hmidi
  have hfo : foldsL bad s.length = (exF s, 0) := by
   unfold foldsL
   rw [m1, m2, if_pos rfl]
  rw [hfo]
  dsimp only
  rw [Option.bind_some, show decide (fo1 none < 0) = true from rfl]
  dsimp only
  rw [Option.bind_some, decide_eq_true rfl]
  dsimp only
  rw [Option.bind_some, decide_eq_true rfl]
  dsimp only
  cases s with
  | nil => exact absurd rfl he
  | cons c r =>
   have hcl : c = 111 ∨ c = 117 := by
    unfold checkE lettersE at hch
    split at hch
    ·cases hch
    ·split at hch
     ·rename_i h2
      have := List.all_eq_true.1 h2 c List.mem_cons_self
      simpa using this
     ·cases hch
   have e54b := f54_at (l := [c]) (a := 111) (b := 117) (by simp) (by decide) (by decide) (fun x hx => by
    rw [List.mem_singleton.1 hx]
    rcases hcl with rfl | rfl <;> decide)
   rw [show ((111 : Nat) : Int) = 111 from rfl, show ((117 : Nat) : Int) = 117 from rfl] at e54b
   have ht1 := ccsubT (w := c :: r) (j := 1) (by simp)
   have hf1 := ccsubF (w := c :: r) (j := 1) (by simp)
   rw [show ((1 : Nat) : Int) = 1 from rfl] at ht1 hf1
   rw [ht1, Option.bind_some, show (c :: r).take 1 = [c] from rfl, e54b, Option.bind_some, hf1, Option.bind_some, ccsadd (by simp at hs6 ⊢; omega), Option.bind_some, Option.bind_some, decide_eq_true (by rfl)]
   dsimp only
   rw [works_true]
   rfl
 | some ab =>
  obtain ⟨a, b⟩ := ab
  dsimp only
  rw [q29, Option.bind_some]
  have hno : foldsL bad s.length = ([], 12) := by
   unfold foldsL
   rw [if_neg]
   intro e
   have := scI_none (c := cl bad) bad.length 0 fun a b h0 h1 h2 => by
    rw [← e]
    exact none_clash (r := rdF bad s.length) (by rw [rdF_len]; exact hs6) h1 (by rw [e]; omega)
   rw [this] at hsc
   cases hsc
  rw [hno]
  dsimp only
  rw [Option.bind_some, show decide (fo1 (some (a, b)) < 0) = false from decide_eq_false (by show ¬ ((a : Int) < 0); omega)]
  dsimp only
  simp only [fo1, fo2, decide_true, Option.bind_some, works_true]
theorem clash_law {m y p : Nat} (hm : m < 256) (hy : y < 256) (hp : p < 256) : f15S fuel (m : Int) (y : Int) (p : Int) = some true := by
 unfold f15S
 rw [foldedO_at hm hy, Option.bind_some]
 have hk : m % 7 < 7 := Nat.mod_lt _ (by decide)
 have hch : checkE (foldedL (m % 7) y) = 0 := check_folC (by omega)
 generalize foldedL (m % 7) y = s at hch
 obtain ⟨hs6, hsm⟩ := of_check hch
 have hmid := mid_all hch
 rw [f23_ok hch, Option.bind_some]
 dsimp only
 have h64 : 2 ^ s.length ≤ 64 := Nat.pow_le_pow_right (n := 2) (by decide) hs6
 have h1p : 1 ≤ 2 ^ s.length := Nat.one_le_two_pow
 have hL := creases_len (r := s)
 have hshl : shlO .i64 1 (s.length : Int) = some ((2 ^ s.length : Nat) : Int) := by
  have : ∀ k, k ≤ 6 → shlO .i64 1 (k : Nat) = some ((2 ^ k : Nat) : Int) := by decide
  exact this _ hs6
 have hw : IntKind.i64.wrap (((2 ^ s.length : Nat) : Int) - 1) = ((creasesL s).length : Int) := by rw [wrap64 (by omega) (by omega), hL]; omega
 have hvh := creasesC_vh (l := s)
 have hlet := letters_vh (l := creasesL s) (by omega) hvh
 obtain ⟨g1, g2⟩ := f62_at (l := creasesL s) hs6 hlet (by omega)
 have q31 := f31_ok g1 (by omega)
 rw [why_13 fun a b h1 h2 => none_clash hs6 h1 h2] at q31
 rw [Option.bind_some, decide_eq_true rfl]
 dsimp only
 rw [Option.bind_some, Option.bind_some, hshl, Option.bind_some, Option.bind_some, hw, Option.bind_some, decide_eq_true rfl]
 dsimp only
 rw [q31, Option.bind_some]
 dsimp only
 rw [Option.bind_some, decide_eq_true rfl]
 dsimp only
 rw [Option.bind_some, decide_eq_true rfl]
 dsimp only
 rw [Option.bind_some]
 dsimp only
 rw [Option.bind_some]
 by_cases he : creasesL s = []
 ·rw [decide_eq_true he]
  dsimp only
  rw [works_true]
  rfl
 ·rw [decide_eq_false he]
  dsimp only
  have hpos : 0 < (creasesL s).length := List.length_pos_iff.2 he
  obtain ⟨i, hie⟩ : ∃ i, p % (creasesL s).length = i := ⟨_, rfl⟩
  have hi : i < (creasesL s).length := hie ▸ Nat.mod_lt _ hpos
  have hrem : remO (p : Int) ((creasesL s).length : Int) = some (i : Int) := by
   unfold remO
   rw [decide_eq_false (by omega)]
   have : Int.tmod (p : Int) ((creasesL s).length : Int) = ((p % (creasesL s).length : Nat) : Int) := rfl
   rw [this, hie]
  have hasc : ∀ x ∈ ((creasesL s).take (i + 1)).drop i, x.toNat < 128 := fun x hx => by
   rcases hvh x (List.mem_of_mem_take (List.mem_of_mem_drop hx)) with rfl | rfl <;> decide
  have e54 := f54_at (l := ((creasesL s).take (i + 1)).drop i) (a := 118) (b := 104) (by simp; omega) (by decide) (by decide) hasc
  have hset := turn_set (c := creasesL s) (i := i) (f := exL 118 104) hi
  rw [Option.bind_some, wrap64 (by omega) (by omega), hrem, Option.bind_some, ccsubT (by omega), Option.bind_some, Option.bind_some, wrap_nat (by omega), ccsub2 (by omega) (by omega), Option.bind_some]
  rw [show ((118 : Nat) : Int) = 118 from rfl, show ((104 : Nat) : Int) = 104 from rfl] at e54
  rw [e54, Option.bind_some, ccsadd (by simp; omega), Option.bind_some, ccsubF (by omega), Option.bind_some, ccsadd (by simp; omega), Option.bind_some, show Nat.toUInt8 118 = 118 from rfl, show Nat.toUInt8 104 = 104 from rfl, hset]
  obtain ⟨xv, xne⟩ := exL_vh (hvh _ (List.getElem_mem hi))
  have hbl : ((creasesL s).set i (exL 118 104 (creasesL s)[i])).length = 2 ^ s.length - 1 := by rw [List.length_set, hL]
  have hbv : ∀ x ∈ (creasesL s).set i (exL 118 104 (creasesL s)[i]), x = 118 ∨ x = 104 := fun x hx => by
   rcases List.mem_or_eq_of_mem_set hx with h | h
   ·exact hvh x h
   ·rw [h]; exact xv
  have hcla := fun hm => turned_clash (s := s) (i := i) (x := exL 118 104 (creasesL s)[i]) hs6 hi xne hvh xv hm
  have hmd : i + 1 = 2 ^ (s.length - 1) → (creasesL s).set i (exL 118 104 (creasesL s)[i]) = creasesL (exF s) ∧ rdF (creasesL (exF s)) s.length = exF s := fun hm => by
   unfold okMid at hmid
   cases s with
   | nil => exact absurd rfl he
   | cons c r =>
    dsimp only at hmid
    rw [Bool.and_eq_true] at hmid
    have a1 := beqS_ok hmid.1
    have a2 := beqS_ok hmid.2
    rw [show 2 ^ ((c :: r).length - 1) - 1 = i by omega] at a1
    rw [← a1]
    refine ⟨?_, a1.symm ▸ a2⟩
    rw [List.getD_eq_getElem?_getD, List.getElem?_eq_getElem hi, Option.getD_some]
  generalize (creasesL s).set i (exL 118 104 (creasesL s)[i]) = bad at hbl hbv hcla hmd
  rw [Option.bind_some]
  have hb1 : bad.length + 1 = 2 ^ s.length := by clear hcla hmd hset e54 hrem hie hw hshl q31 g1 g2 hlet hvh hbv; omega
  exact clash_fin he hs6 hch hb1 hbv (fun h => let ⟨a, b, h1, h2, h3⟩ := hcla h; ⟨a, b, h1, Nat.lt_of_lt_of_eq h2 (by rw [hL, hbl]), h3⟩) hmd
theorem quireClash_is {m y p : Nat} (hm : m < 256) (hy : y < 256) (hp : p < 256) : E Tryd.prog Y0 15 [.v (.int .u8 m), .v (.int .u8 y), .v (.int .u8 p)] [] = some (.v (.bool true), [], none) := f15_is (clash_law hm hy hp)
end Go.Proofs.YtcjephdjemapbaaDoor

/-
  ShortSimon: two words of as many letters are told apart by a part of at most half as many, and one.
  Conditions: none; lemmas.
-/
import Derived.Test.YtmnmfmghmenkkaaDifferLaw
set_option linter.unusedSimpArgs false
set_option linter.unusedVariables false
namespace Go.Proofs.Ytmnmfmghmenkkaa
open Go.Abs Go.Pur
set_option maxRecDepth 100000
theorem count_two {c d : UInt8} (h : c ≠ d) : ∀ {w : List UInt8}, w.count c + w.count d ≤ w.length
 | [] => by simp
 | x :: w => by
  have := count_two h (w := w)
  rw [List.count_cons, List.count_cons, List.length_cons]
  by_cases h1 : x = c
  ·have h2 : ¬ x = d := fun e => h (by rw [← h1, e])
   simp [h1, h2, h]
   omega
  ·simp [h1]
   split <;> omega
theorem count_eq : ∀ {x y : List UInt8}, (∀ d, x.count d ≤ y.count d) → x.length = y.length → ∀ d, x.count d = y.count d
 | [], y, _, hl => by
  have : y = [] := List.eq_nil_of_length_eq_zero hl.symm
  subst this
  intro d; rfl
 | a :: x, y, h, hl => by
  have ha : a ∈ y := by
   have := h a
   rw [List.count_cons_self] at this
   exact List.count_pos_iff.1 (by omega)
  have hc : ∀ d, (y.erase a).count d = y.count d - if a = d then 1 else 0 := fun d => by
   rw [List.count_erase]
   simp
  have hpos : 0 < y.count a := List.count_pos_iff.2 ha
  have ih := count_eq (x := x) (y := y.erase a) (fun d => by
   have := h d
   rw [List.count_cons] at this
   rw [hc]
   by_cases e : a = d
   ·subst e; simp at this ⊢; omega
   ·simp [e] at this ⊢; omega) (by rw [List.length_erase_of_mem ha, ← hl]; simp)
  intro d
  have := ih d
  rw [hc] at this
  rw [List.count_cons, this]
  by_cases e : a = d
  ·subst e; simp; omega
  ·simp [e]
theorem first_diff : ∀ {x y : List UInt8}, x.length = y.length → x ≠ y → ∃ u c d x' y', x = u ++ c :: x' ∧ y = u ++ d :: y' ∧ c ≠ d
 | [], [], _, h => absurd rfl h
 | [], _ :: _, h, _ => by cases h
 | _ :: _, [], h, _ => by cases h
 | a :: x, b :: y, hl, h => by
  by_cases e : a = b
  ·subst e
   obtain ⟨u, c, d, x', y', h1, h2, h3⟩ := first_diff (x := x) (y := y) (by simpa using hl) (fun e => h (by rw [e]))
   exact ⟨a :: u, c, d, x', y', by rw [h1]; rfl, by rw [h2]; rfl, h3⟩
  ·exact ⟨[], a, b, x, y, rfl, rfl, e⟩
theorem rep_sub {c : UInt8} {k : Nat} {w : List UInt8} : (List.replicate k c).Sublist w ↔ k ≤ w.count c := (List.replicate_sublist_iff)
theorem two_tell {u x' y' : List UInt8} {c d : UInt8} (h : c ≠ d) (hd : (u ++ d :: y').count d ≤ (u ++ c :: x').count d) :
  (List.replicate (u.count c + 1) c ++ List.replicate ((u ++ c :: x').count d - u.count d) d).Sublist (u ++ c :: x') ∧
  ¬ (List.replicate (u.count c + 1) c ++ List.replicate ((u ++ c :: x').count d - u.count d) d).Sublist (u ++ d :: y') := by
 have hx : (u ++ c :: x').count d = u.count d + x'.count d := by
  rw [List.count_append, List.count_cons_of_ne h]
 have hy : (u ++ d :: y').count d = u.count d + (y'.count d + 1) := by
  rw [List.count_append, List.count_cons_self]
 constructor
 ·rw [show u ++ c :: x' = (u ++ [c]) ++ x' by simp]
  refine List.Sublist.append (rep_sub.2 ?_) (rep_sub.2 ?_)
  ·rw [List.count_append]; simp
  ·rw [show (u ++ [c]) ++ x' = u ++ c :: x' by simp, hx]; omega
 ·intro hs
  obtain ⟨r1, r2, e, h1, h2⟩ := List.append_sublist_iff.1 hs
  have c1 := rep_sub.1 h1
  have c2 := rep_sub.1 h2
  rcases List.append_eq_append_iff.1 e with ⟨t, e1, e2⟩ | ⟨t, e1, e2⟩
  ·cases t with
   | nil =>
    rw [e1, List.append_nil] at c1
    omega
   | cons z t =>
    rw [List.cons_append] at e2
    injection e2 with e3 e4
    subst e3
    have hy2 : y'.count d = t.count d + r2.count d := by rw [e4, List.count_append]
    rw [hx] at c2
    rw [hx, hy] at hd
    omega
  ·rw [e1, List.count_append] at c1
   omega
theorem rep_tell {x y : List UInt8} {c : UInt8} (h : x.count c < y.count c) : ¬ (List.replicate (x.count c + 1) c).Sublist x ∧ (List.replicate (x.count c + 1) c).Sublist y :=
 ⟨fun e => by have := rep_sub.1 e; omega, rep_sub.2 h⟩
theorem simon {x y : List UInt8} (hl : x.length = y.length) (hne : x ≠ y) : ∃ q, Tel x y q ∧ q.length ≤ x.length / 2 + 1 := by
 have tel : ∀ {q : List UInt8}, q.Sublist x → ¬ q.Sublist y → Tel x y q := fun h1 h2 => by
  rw [tel_left, leftW_sub.2 h1]
  exact fun e => h2 (leftW_sub.1 e.symm)
 have tel' : ∀ {q : List UInt8}, q.Sublist y → ¬ q.Sublist x → Tel x y q := fun h1 h2 => by
  rw [tel_left, leftW_sub.2 h1]
  exact fun e => h2 (leftW_sub.1 e)
 by_cases hcnt : ∀ d, x.count d ≤ y.count d
 ·have heq := count_eq hcnt hl
  obtain ⟨u, c, d, x', y', e1, e2, hcd⟩ := first_diff hl hne
  have hxd := heq d
  have hxc := heq c
  have h1 := two_tell (u := u) (x' := x') (y' := y') hcd (by rw [← e1, ← e2]; omega)
  have h2 := two_tell (u := u) (x' := y') (y' := x') (Ne.symm hcd) (by rw [← e1, ← e2]; omega)
  rw [← e1, ← e2] at h1 h2
  have hsum := count_two hcd (w := x)
  have hu1 : u.count d ≤ x.count d := by rw [e1, List.count_append]; omega
  have hu2 : u.count c + 1 ≤ x.count c := by rw [e1, List.count_append, List.count_cons_self]; omega
  by_cases hsm : u.count c + 1 + (x.count d - u.count d) ≤ x.length / 2 + 1
  ·exact ⟨_, tel h1.1 h1.2, by rw [List.length_append, List.length_replicate, List.length_replicate]; exact hsm⟩
  ·refine ⟨_, tel' h2.1 h2.2, ?_⟩
   rw [List.length_append, List.length_replicate, List.length_replicate]
   omega
 ·obtain ⟨d, hd⟩ : ∃ d, y.count d < x.count d := by
   refine Classical.byContradiction fun hc => hcnt fun d => Nat.not_lt.1 fun h => hc ⟨d, h⟩
  obtain ⟨c, hc⟩ : ∃ c, x.count c < y.count c := by
   refine Classical.byContradiction fun hc => ?_
   have := count_eq (x := y) (y := x) (fun c => Nat.not_lt.1 fun h => hc ⟨c, h⟩) hl.symm d
   omega
  have hcd : c ≠ d := fun e => by subst e; omega
  have hsum := count_two hcd (w := x)
  by_cases hsm : x.count c + 1 ≤ x.length / 2 + 1
  ·have h := rep_tell hc
   exact ⟨_, tel' h.2 h.1, by rw [List.length_replicate]; exact hsm⟩
  ·have h := rep_tell hd
   refine ⟨_, tel h.2 h.1, ?_⟩
   rw [List.length_replicate]
   omega
theorem sized_law {l : List Int} (hl : l.length = 11) (hb : ∀ z ∈ l, byteI z) {n k : Nat} (hn : n ≤ 10) (h1 : 1 ≤ k) (h6 : k ≤ 6) : ∃ w, f48O l n k = some w ∧ w.length = n ∧ ∀ c ∈ w, c ∈ lets k := by
 have hx := bysV_ints hb
 refine ⟨((((l.map fun z => z.toNat.toUInt8).drop 1).take n).map (lt k)), ?_, ?_, ?_⟩
 ·unfold f48O slipV
  simp only [show (n : Int) = Int.ofNat n from rfl, show (k : Int) = Int.ofNat k from rfl, e48, hx]
  rw [show Nat.beq (List.map (Value.int IntKind.u8) l).toArray.size 11 = true by simp [hl], Nat.ble_eq_true_of_le hn, Nat.ble_eq_true_of_le h1, Nat.ble_eq_true_of_le h6]
  simp only [txtO]
 ·simp only [List.length_map, List.length_take, List.length_drop]
  omega
 ·intro c hc
  obtain ⟨d, _, rfl⟩ := List.mem_map.1 hc
  exact lt_mem h1 h6
section
variable {x y p : List UInt8} (hx : x.length ≤ 10) (hy : y.length ≤ 10) (hlx : ∀ c ∈ x, c ∈ lets 6) (hly : ∀ c ∈ y, c ∈ lets 6) (ht : Tel x y p) (hmin : ∀ q, Tel x y q → ¬ slt q p)
include hx hy hlx hly ht hmin
theorem f8_run {F : Nat} (hF : 3 ≤ F) {K : Int × Int × Int × Int × Int × Int × Int × Int × Int × Int × Int × Int × Int × Int × Int × Int × Int × Int × Int × Int × Int × Int → Option Bool} {r : Int × Int × Int × Int × Int × Int × Int × Int × Int × Int × Int × Int × Int × Int × Int × Int × Int × Int × Int × Int × Int × Int} :
  ∀ {m n v : Nat}, v + m = 11 → m < n → f8_L0 F x y p K n ((v : Int), r) = K r := by
 obtain ⟨v32, v33, v34, v35, v36, v37, v38, v39, v40, v41, v42, v43, v44, v45, v46, v47, v48, v49, v50, v51, v52, v53⟩ := r
 intro m
 induction m with
 | zero =>
  intro n v hv hn
  obtain ⟨n', rfl⟩ : ∃ n', n = n' + 1 := ⟨n - 1, by omega⟩
  unfold f8_L0
  rw [Option.bind_some, decide_eq_false (by omega)]
 | succ m ih =>
  intro n v hv hn
  obtain ⟨n', rfl⟩ : ∃ n', n = n' + 1 := ⟨n - 1, by omega⟩
  unfold f8_L0
  rw [Option.bind_some, decide_eq_true (by omega)]
  dsimp only
  rw [f42_law hx hy hlx hly hF (by omega), Option.bind_some]
  dsimp only
  rw [Option.bind_some, decide_eq_true rfl]
  dsimp only
  rw [Option.bind_some, Option.bind_some, Option.bind_some, bfs_at hx hy hlx hly ht hmin]
  have e : ((!(if (p.length : Int) ≤ (v : Int) then some p else none).isSome) != decide ((v : Int) < (p.length : Int))) = false := by
   by_cases h : (p.length : Int) ≤ (v : Int)
   ·rw [if_pos h, decide_eq_false (by omega)]; rfl
   ·rw [if_neg h, decide_eq_true (by omega)]; rfl
  rw [e]
  dsimp only
  rw [Option.bind_some, wrap_nat (by omega)]
  exact ih (by omega) (by omega)
end
theorem f8_law {l l' : List Int} (hl : l.length = 11) (hl' : l'.length = 11) {a b c d e f g h i j k a' b' c' d' e' f' g' h' i' j' k' : Int} (he : l = [a, b, c, d, e, f, g, h, i, j, k]) (he' : l' = [a', b', c', d', e', f', g', h', i', j', k']) (hb : ∀ z ∈ l, byteI z) (hb' : ∀ z ∈ l', byteI z) {p : Int} (hp : byteI p) {F : Nat} (hF : 1100 ≤ F) : f8S F a b c d e f g h i j k a' b' c' d' e' f' g' h' i' j' k' p = some true := by
 obtain ⟨R, rfl⟩ : ∃ R : Nat, p = R := ⟨p.toNat, (Int.toNat_of_nonneg hp.1).symm⟩
 obtain ⟨q, hq, hq1, hq6⟩ : ∃ q : Nat, R % 4 + 1 = q ∧ 0 < q ∧ q ≤ 6 := ⟨_, rfl, by omega, by have := Nat.mod_lt R (show 0 < 4 by omega); omega⟩
 have ha : byteI a := hb a (by rw [he]; exact List.mem_cons_self)
 obtain ⟨A, rfl⟩ : ∃ A : Nat, a = A := ⟨a.toNat, (Int.toNat_of_nonneg ha.1).symm⟩
 obtain ⟨n, hn, hn8⟩ : ∃ n : Nat, A % 9 = n ∧ n ≤ 8 := ⟨_, rfl, by have := Nat.mod_lt A (show 0 < 9 by omega); omega⟩
 unfold f8S
 rw [← he, ← he', Option.bind_some, wrap64 (z := (R : Int)) (by omega) (by have := hp.2; omega), Option.bind_some, show (4 : Int) = ((4 : Nat) : Int) from rfl, tmod_nat, Option.bind_some, show IntKind.i64.wrap (1 + ((R % 4 : Nat) : Int)) = (q : Int) by rw [wrap64 (by omega) (by omega)]; omega,
  Option.bind_some, wrap64 (z := (A : Int)) (by omega) (by have := ha.2; omega), Option.bind_some, show (9 : Int) = ((9 : Nat) : Int) from rfl, tmod_nat, hn]
 obtain ⟨x, hx, hxl, hxm⟩ := sized_law hl hb (n := n) (k := q) (by omega) (by omega) (by omega)
 obtain ⟨y, hy, hyl, hym⟩ := sized_law hl' hb' (n := n) (k := q) (by omega) (by omega) (by omega)
 have hx6 := fun c hc => lets_up hq6 (hxm c hc)
 have hy6 := fun c hc => lets_up hq6 (hym c hc)
 rw [hx, Option.bind_some, hy, Option.bind_some, show f50S F x = some ((prtM x (2 ^ x.length)).1, (prtM x (2 ^ x.length)).2) from f50_law (by omega) hF, Option.bind_some]
 dsimp only
 rw [show f50S F y = some ((prtM y (2 ^ y.length)).1, (prtM y (2 ^ y.length)).2) from f50_law (by omega) hF, Option.bind_some]
 dsimp only
 rw [f49_at, Option.bind_some]
 have hX := f40_law (a := x) (b := y) (by omega) (by omega) hx6 hy6 (F := F) (by omega)
 rcases first_two (a := x) (b := y) with ⟨h1, h2, h3⟩ | ⟨h1, h2⟩
 ·have hne : ¬ x = y := fun e => by subst e; exact h2 rfl
  have hpl : (fst2 x y).1.length ≤ n / 2 + 1 := by
   obtain ⟨q, t1, t2⟩ := simon (by omega) hne
   have := h3 q t1
   rw [hxl] at t2
   exact Nat.le_trans (Nat.not_lt.1 fun h => this (.inl h)) t2
  rw [bfs_at (by omega) (by omega) hx6 hy6 h2 h3, if_pos (by omega)] at hX
  rcases hrs : fst2 x y with ⟨r, s⟩
  rw [hrs] at hX h1 h2 h3 hpl
  dsimp only at hX h1 h2 h3 hpl ⊢
  subst h1
  rw [hX, Option.bind_some]
  dsimp only
  rw [Option.bind_some, decide_eq_false hne, Option.bind_some]
  simp only [Bool.not_false, bne_self_eq_false, decide_true, Option.bind_some]
  rw [show IntKind.i64.wrap (Int.tdiv (n : Int) 2) = ((n / 2 : Nat) : Int) by rw [show Int.tdiv (n : Int) 2 = ((n / 2 : Nat) : Int) from rfl, wrap64 (by omega) (by omega)], wrap_nat (by omega), decide_eq_false (by omega)]
  dsimp only
  rw [leftO_at (by omega), Option.bind_some, leftO_at (by omega), Option.bind_some, show (leftW x r == leftW y r) = false from beq_eq_false_iff_ne.2 (tel_left.1 h2)]
  dsimp only
  exact f8_run (by omega) (by omega) hx6 hy6 h2 h3 (by omega) (m := 11) (v := 0) rfl (by omega)
 ·subst h2
  rw [bfs_same] at hX
  rcases hrs : fst2 x x with ⟨r, s⟩
  rw [hrs] at h1
  dsimp only at h1 hX ⊢
  subst h1
  rw [hX, Option.bind_some]
  dsimp only
  rw [Option.bind_some, decide_eq_true rfl, Option.bind_some]
  simp only [Bool.not_true, bne_self_eq_false]
  rw [show (10 : Int) = ((10 : Nat) : Int) from rfl, f42_law (by omega) (by omega) hx6 hx6 (by omega) (by omega), bfs_same, Option.bind_some]
  simp
end Go.Proofs.Ytmnmfmghmenkkaa

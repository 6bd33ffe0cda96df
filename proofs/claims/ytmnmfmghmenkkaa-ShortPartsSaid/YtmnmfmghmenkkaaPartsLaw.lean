/-
  ShortParts: parts are counted and listed as stated.
  Conditions: none; lemmas.
-/
import Derived.Test.YtmnmfmghmenkkaaLaw4
import Derived.Test.YtmnmfmghmenkkaaMostLaw
set_option linter.unusedSimpArgs false
set_option linter.unusedVariables false
namespace Go.Proofs.Ytmnmfmghmenkkaa
open Go.Abs Go.Pur
set_option maxRecDepth 100000
def sz : Nat → List UInt8 → List (List UInt8)
 | 0, _ => [[]]
 | n + 1, w => (lets 6).flatMap fun c => match bhd w c with
  | some w' => (sz n w').map (c :: ·)
  | none => []
theorem sz_mem : ∀ {n : Nat} {w p : List UInt8}, p ∈ sz n w → leftW w p = true ∧ p.length = n
 | 0, w, p, h => by
  rw [sz, List.mem_singleton] at h
  subst h
  exact ⟨left_nil, rfl⟩
 | n + 1, w, p, h => by
  rw [sz, List.mem_flatMap] at h
  obtain ⟨c, hc, h⟩ := h
  split at h
  ·rename_i w' hb
   obtain ⟨q, hq, rfl⟩ := List.mem_map.1 h
   obtain ⟨h1, h2⟩ := sz_mem hq
   exact ⟨by rw [bhd_left, hb]; exact h1, by simp [h2]⟩
  ·cases h
theorem sz_all : ∀ {n : Nat} {w p : List UInt8}, (∀ c ∈ w, c ∈ lets 6) → leftW w p = true → p.length = n → p ∈ sz n w
 | 0, w, p, hw, h, hn => by
  rw [sz, List.mem_singleton]
  exact List.length_eq_zero_iff.1 hn
 | n + 1, w, [], hw, h, hn => by cases hn
 | n + 1, w, c :: p, hw, h, hn => by
  rw [sz, List.mem_flatMap]
  have hs := leftW_sub.1 h
  refine ⟨c, hw c (hs.mem List.mem_cons_self), ?_⟩
  rw [bhd_left] at h
  cases hb : bhd w c with
  | none => rw [hb] at h; cases h
  | some w' =>
   rw [hb] at h
   exact List.mem_map.2 ⟨p, sz_all (bhd_all hb hw) h (by simpa using hn), rfl⟩
theorem lets6_lt : (lets 6).Pairwise (· < ·) := by decide
theorem sz_sorted : ∀ {n : Nat} {w : List UInt8}, (sz n w).Pairwise (· < ·)
 | 0, w => by rw [sz]; exact List.pairwise_singleton _ _
 | n + 1, w => by
  rw [sz, List.pairwise_flatMap]
  refine ⟨fun c _ => ?_, lets6_lt.imp ?_⟩
  ·split
   ·rw [List.pairwise_map]
    exact sz_sorted.imp fun h => List.cons_lt_cons_iff.2 (.inr ⟨rfl, h⟩)
   ·exact List.Pairwise.nil
  ·intro c d h x hx y hy
   split at hx
   ·split at hy
    ·obtain ⟨p, _, rfl⟩ := List.mem_map.1 hx
     obtain ⟨q, _, rfl⟩ := List.mem_map.1 hy
     exact List.cons_lt_cons_iff.2 (.inl h)
    ·cases hy
   ·cases hx
theorem sz_nodup {n : Nat} {w : List UInt8} : (sz n w).Nodup := sz_sorted.imp fun h e => by
 subst e
 exact List.lt_irrefl _ h
theorem eq_of_sorted : ∀ {l m : List (List UInt8)}, l.Pairwise (· < ·) → m.Pairwise (· ≤ ·) → m.Nodup → (∀ x, x ∈ l ↔ x ∈ m) → l = m
 | [], [], _, _, _, _ => rfl
 | [], b :: m, _, _, _, h => absurd ((h b).2 List.mem_cons_self) (by simp)
 | a :: l, [], _, _, _, h => absurd ((h a).1 List.mem_cons_self) (by simp)
 | a :: l, b :: m, hl, hm, hn, h => by
  rw [List.pairwise_cons] at hl hm
  rw [List.nodup_cons] at hn
  have e : a = b := Classical.byContradiction fun ne => by
   have h1 : a ∈ m := ((List.mem_cons.1 ((h a).1 List.mem_cons_self)).resolve_left ne)
   have h2 : b ∈ l := ((List.mem_cons.1 ((h b).2 List.mem_cons_self)).resolve_left (Ne.symm ne))
   exact List.not_lt.2 (hm.1 a h1) (hl.1 b h2)
  subst e
  congr 1
  refine eq_of_sorted hl.2 hm.2 hn.2 fun x => ?_
  constructor
  ·intro hx
   refine (List.mem_cons.1 ((h x).1 (List.mem_cons_of_mem _ hx))).resolve_left fun e => ?_
   subst e
   exact List.lt_irrefl _ (hl.1 x hx)
  ·intro hx
   refine (List.mem_cons.1 ((h x).2 (List.mem_cons_of_mem _ hx))).resolve_left fun e => ?_
   subst e
   exact hn.1 hx
theorem srt_eq {n : Nat} {w : List UInt8} (hw : ∀ c ∈ w, c ∈ lets 6) (hn : n ≤ w.length) : srt (allR w.length w n) = sz n w := by
 obtain ⟨h1, h2⟩ := allR_mem (n := w.length) (l := w) (Nat.le_refl _)
 have hp : (srt (allR w.length w n)).Perm (allR w.length w n) := List.mergeSort_perm _ _
 refine (eq_of_sorted sz_sorted ?_ (hp.nodup_iff.2 (h1 n)) fun x => ?_).symm
 ·have := List.pairwise_mergeSort (le := fun (x y : List UInt8) => decide (x ≤ y)) (fun a b c h1 h2 => by
   simp only [decide_eq_true_eq] at *
   exact List.le_trans h1 h2) (fun a b => by
   simp only [Bool.or_eq_true, decide_eq_true_eq]
   exact List.le_total a b) (allR w.length w n)
  exact this.imp fun h => by simpa using h
 ·rw [hp.mem_iff, h2]
  constructor
  ·intro h
   obtain ⟨h3, h4⟩ := sz_mem h
   exact ⟨leftW_sub.1 h3, h4⟩
  ·rintro ⟨h3, h4⟩
   exact sz_all hw (leftW_sub.2 h3) h4
theorem sz_len {n : Nat} {w : List UInt8} (hw : w.length ≤ 10) : (sz n w).length ≤ 1024 := by
 have h1 : (sz n w).length ≤ dl w := nodup_le (m := prt w) sz_nodup fun x hx => prt_mem.2 (sz_mem hx).1
 have h2 := dl_pow (w := w)
 have h3 : 2 ^ w.length ≤ 2 ^ 10 := Nat.pow_le_pow_right (by decide) hw
 omega
theorem f63_find {w : List UInt8} {c : UInt8} {F : Nat} {K : Int → Option (Ck × List (List UInt8))} (hw : w.length ≤ 1000) : ∀ (n j : Nat), w.length + 1 ≤ n + j → j ≤ w.length →
  (bhd (w.drop j) c = none → f63_L1 F w [c] K n j = K w.length) ∧ ∀ w', bhd (w.drop j) c = some w' → ∃ i, i < w.length ∧ w' = w.drop (i + 1) ∧ f63_L1 F w [c] K n j = K i
 | 0, j, h, hj => absurd h (by omega)
 | n + 1, j, h, hj => by
  rw [f63_L1, Option.bind_some, Option.bind_some]
  by_cases hj' : j < w.length
  ·rw [decide_eq_true (show (j : Int) < (w.length : Int) by omega)]
   dsimp only
   rw [wrap_nat (by omega), Option.bind_some, sub_one hj', Option.bind_some, Option.bind_some, List.drop_eq_getElem_cons hj', bhd]
   by_cases hc : w[j] = c
   ·rw [if_pos hc, decide_eq_true (by rw [hc])]
    exact ⟨fun e => (by cases e), fun w' e => ⟨j, hj', (Option.some.inj e).symm, rfl⟩⟩
   ·rw [if_neg hc, decide_eq_false (fun e => hc (List.cons.inj e).1)]
    exact f63_find hw n (j + 1) (by omega) (by omega)
  ·rw [decide_eq_false (show ¬ (j : Int) < (w.length : Int) by omega), List.drop_eq_nil_of_le (by omega)]
   obtain rfl : j = w.length := by omega
   exact ⟨fun _ => rfl, fun w' e => by cases e⟩
theorem f63_more {c : UInt8} {l : List (List UInt8)} {F : Nat} {K : List (List UInt8) → Option (Ck × List (List UInt8))} (hl : l.length ≤ 1024) (hs : ∀ y ∈ l, y.length ≤ 100) : ∀ (n j : Nat) (v : List (List UInt8)), l.length + 1 ≤ n + j → j ≤ l.length → v.length ≤ 20000 + j →
  f63_L2 F [c] l K n (v, (j : Int)) = K (v ++ (l.drop j).map (c :: ·))
 | 0, j, v, h, hj, _ => absurd h (by omega)
 | n + 1, j, v, h, hj, hv => by
  rw [f63_L2, Option.bind_some, Option.bind_some]
  by_cases hj' : j < l.length
  ·rw [decide_eq_true (show (j : Int) < (l.length : Int) by omega)]
   dsimp only
   have hg : gI l (j : Int) = some l[j] := List.getElem?_eq_getElem hj'
   have h100 := hs _ (List.getElem_mem hj')
   have ha : app1 v ([c] ++ l[j]) = some (v ++ [[c] ++ l[j]]) := by
    unfold app1
    rw [Nat.ble_eq_true_of_le (by omega)]
   rw [hg, Option.bind_some, sadd_at (by simp; omega), Option.bind_some, ha, Option.bind_some, wrap_nat (by omega), Option.bind_some, f63_more hl hs n (j + 1) _ (by omega) (by omega) (by simp; omega), List.drop_eq_getElem_cons hj', List.map_cons]
   simp
  ·rw [decide_eq_false (show ¬ (j : Int) < (l.length : Int) by omega), List.drop_eq_nil_of_le (by omega)]
   simp
theorem f63_lets {w : List UInt8} {m F : Nat} {R : List UInt8 → Int → Option (Ck × List (List UInt8))} {K : List (List UInt8) → Option (Ck × List (List UInt8))} (hw : w.length ≤ 10) (hF : 1100 ≤ F) (hm : m ≤ 10)
  (hR : ∀ w', w'.length ≤ 10 → ∃ ck, R w' (m : Int) = some (ck, sz m w')) : ∀ (n j : Nat) (v : List (List UInt8)), 7 ≤ n + j → j ≤ 6 → v.length ≤ 1024 * j →
  f63_L0 F R w ((m + 1 : Nat) : Int) K n (v, (j : Int)) = K (v ++ ((lets 6).drop j).flatMap fun c => match bhd w c with
   | some w' => (sz m w').map (c :: ·)
   | none => [])
 | 0, j, v, h, hj, _ => absurd h (by omega)
 | n + 1, j, v, h, hj, hv => by
  rw [f63_L0, Option.bind_some]
  by_cases hj' : j < 6
  ·rw [decide_eq_true (show (j : Int) < 6 by omega)]
   dsimp only
   have hb : bytesN [97 + (j : Int)] = [UInt8.ofNat (97 + j)] := by
    have h1 := @bytesN_ints [UInt8.ofNat (97 + j)]
    unfold ints at h1
    rw [List.map_cons, List.map_nil, let_nat hj'] at h1
    exact h1
   rw [wrap64 (z := 97 + (j : Int)) (by omega) (by omega), Option.bind_some, wrap8 (by omega) (by omega), Option.bind_some, hb, Option.bind_some]
   have hd : (lets 6).drop j = UInt8.ofNat (97 + j) :: (lets 6).drop (j + 1) := by
    rw [List.drop_eq_getElem_cons (by rw [lets_len]; exact hj'), lets_at hj']
   rw [hd, List.flatMap_cons]
   generalize UInt8.ofNat (97 + j) = c
   obtain ⟨q1, q2⟩ := @f63_find w c F (fun v14 =>
    (some ((w.length : Int))).bind fun x15 =>
    (some (decide (v14 = x15))).bind fun x16 =>
    (match x16 with
    | true => ((some (IntKind.i64.wrap ((j : Int) + 1))).bind fun x17 =>
    f63_L0 F R w ((m + 1 : Nat) : Int) K n (v, x17))
    | false => ((some (IntKind.i64.wrap (v14 + 1))).bind fun x18 =>
    (subF w x18).bind fun x19 =>
    (some (IntKind.i64.wrap (((m + 1 : Nat) : Int) - 1))).bind fun x20 =>
    (R x19 x20).bind fun (c21, l22) =>
    f63_L2 F [c] l22 (fun v32 =>
     (some (IntKind.i64.wrap ((j : Int) + 1))).bind fun x33 =>
     f63_L0 F R w ((m + 1 : Nat) : Int) K n (v32, x33)) F (v, 0)))) (by omega) F 0 (by omega) (by omega)
   rw [List.drop_zero] at q1 q2
   cases hbh : bhd w c with
   | none =>
    refine (q1 hbh).trans ?_
    dsimp only
    rw [Option.bind_some, Option.bind_some, decide_eq_true rfl]
    dsimp only
    rw [wrap_nat (by omega), Option.bind_some, f63_lets hw hF hm hR n (j + 1) v (by omega) (by omega) (by omega)]
    simp
   | some w' =>
    obtain ⟨i, hi, hw', q⟩ := q2 w' hbh
    refine q.trans ?_
    dsimp only
    have hl' : w'.length ≤ 10 := by have := bhd_len hbh; omega
    obtain ⟨ck, hRR⟩ := hR w' hl'
    have hmm : IntKind.i64.wrap (((m + 1 : Nat) : Int) - 1) = (m : Int) := by rw [wrap64 (by omega) (by omega)]; omega
    rw [Option.bind_some, Option.bind_some, decide_eq_false (show ¬ (i : Int) = (w.length : Int) by omega)]
    dsimp only
    rw [wrap_nat (by omega), Option.bind_some, subF_at (by omega), Option.bind_some, hmm, Option.bind_some, ← hw', hRR, Option.bind_some]
    dsimp only
    have hsl := sz_len (n := m) hl'
    refine (f63_more (K := fun v32 =>
     (some (IntKind.i64.wrap ((j : Int) + 1))).bind fun x33 =>
     f63_L0 F R w ((m + 1 : Nat) : Int) K n (v32, x33)) hsl (fun y hy => by have := (sz_mem hy).2; omega) F 0 v (by omega) (by omega) (by omega)).trans ?_
    rw [List.drop_zero, wrap_nat (by omega)]
    try dsimp only
    rw [Option.bind_some, f63_lets hw hF hm hR n (j + 1) _ (by omega) (by omega) (by simp; omega), List.append_assoc]
  ·rw [decide_eq_false (show ¬ (j : Int) < 6 by omega)]
   have : (lets 6).drop j = [] := List.drop_eq_nil_of_le (by rw [lets_len]; omega)
   rw [this]
   simp
theorem f63_law {F : Nat} (hF : 1100 ≤ F) : ∀ {n D : Nat} {w : List UInt8}, n ≤ 11 → n < D → w.length ≤ 10 → ∃ ck, f63S F D w (n : Int) = some (ck, sz n w)
 | n, 0, w, _, h, _ => absurd h (by omega)
 | 0, D + 1, w, _, h, hw => by
  refine ⟨.full, ?_⟩
  rw [f63S, Option.bind_some, show decide (((0 : Nat) : Int) = 0) = true from rfl]
  rfl
 | n + 1, D + 1, w, hn, h, hw => by
  refine ⟨.nz, ?_⟩
  rw [f63S, Option.bind_some, decide_eq_false (show ¬ ((n + 1 : Nat) : Int) = 0 by omega)]
  dsimp only
  have := f63_lets (w := w) (m := n) (F := F) (R := f63S F D) (K := fun v34 => some (.nz, v34)) hw hF (by omega) (fun w' hw' => f63_law hF (by omega) (by omega) hw') F 0 [] (by omega) (by omega) (by simp)
  rw [show ((0 : Nat) : Int) = 0 from rfl, List.drop_zero, List.nil_append] at this
  rw [this, sz]
def sumL (w : List UInt8) : Nat → Nat
 | 0 => 0
 | j + 1 => sumL w j + (sz j w).length
theorem sumL_eq {w : List UInt8} (hw : ∀ c ∈ w, c ∈ lets 6) : ∀ {j : Nat}, sumL w j = ((prt w).filter fun p => decide (p.length < j)).length
 | 0 => by
  rw [sumL]
  symm
  rw [List.length_eq_zero_iff, List.filter_eq_nil_iff]
  intro p _
  simp
 | j + 1 => by
  rw [sumL, sumL_eq hw, len_parts (fun p : List UInt8 => decide (p.length < j)) ((prt w).filter fun p => decide (p.length < j + 1)), List.filter_filter, List.filter_filter]
  congr 1
  ·congr 1
   refine List.filter_congr fun p _ => ?_
   by_cases h : p.length < j
   ·rw [decide_eq_true h, decide_eq_true (by omega)]; rfl
   ·rw [decide_eq_false h]; rfl
  ·refine same_len sz_nodup (prt_nodup.filter _) fun p => ?_
   rw [List.mem_filter, prt_mem]
   constructor
   ·intro h
    obtain ⟨h1, h2⟩ := sz_mem h
    exact ⟨h1, by simp; omega⟩
   ·rintro ⟨h1, h2⟩
    simp only [Bool.and_eq_true, Bool.not_eq_true', decide_eq_true_eq, decide_eq_false_iff_not] at h2
    exact sz_all hw h1 (by omega)
theorem sumL_all {w : List UInt8} (hw : ∀ c ∈ w, c ∈ lets 6) : sumL w (w.length + 1) = dl w := by
 rw [sumL_eq hw, dl]
 congr 1
 rw [List.filter_eq_self]
 intro p hp
 have := (leftW_sub.1 (prt_mem.1 hp)).length_le
 simp
 omega
theorem f60_run {w : List UInt8} {F : Nat} (hw : w.length ≤ 10) (hF : 1100 ≤ F) {K : Int → Option Int} : ∀ (n j : Nat), w.length + 2 ≤ n + j → j ≤ w.length + 1 → sumL w j ≤ 1024 * j → f60_L0 F w K n ((sumL w j : Nat), (j : Int)) = K ((sumL w (w.length + 1) : Nat) : Int)
 | 0, j, h, hj, _ => absurd h (by omega)
 | n + 1, j, h, hj, hs => by
  rw [f60_L0, Option.bind_some, Option.bind_some]
  by_cases hj' : j ≤ w.length
  ·rw [decide_eq_true (show (j : Int) ≤ (w.length : Int) by omega)]
   dsimp only
   obtain ⟨ck, q⟩ := f63_law hF (n := j) (D := F) (w := w) (by omega) (by omega) hw
   have hl := sz_len (n := j) hw
   rw [q, Option.bind_some]
   dsimp only
   have e : IntKind.i64.wrap (((sumL w j : Nat) : Int) + ((sz j w).length : Int)) = ((sumL w (j + 1) : Nat) : Int) := by
    rw [wrap64 (by omega) (by omega), sumL]; omega
   rw [Option.bind_some, e, Option.bind_some, wrap_nat (by omega), Option.bind_some]
   exact f60_run hw hF n (j + 1) (by omega) (by omega) (by rw [sumL]; omega)
  ·rw [decide_eq_false (show ¬ (j : Int) ≤ (w.length : Int) by omega)]
   obtain rfl : j = w.length + 1 := by omega
   rfl
theorem f60_law {w : List UInt8} {F : Nat} (hw : w.length ≤ 10) (hl : ∀ c ∈ w, c ∈ lets 6) (hF : 1100 ≤ F) : f60S F w = some (dl w : Int) := by
 unfold f60S
 have := f60_run hw hF (K := fun v11 => some v11) F 0 (by omega) (by omega) (by simp [sumL])
 rw [sumL_all hl] at this
 exact this
theorem checkW_lets {w : List UInt8} (h : checkW w = 0) : w.length ≤ 10 ∧ ∀ c ∈ w, c ∈ lets 6 := by
 obtain ⟨h1, h2⟩ := checkW_let h
 refine ⟨h1, fun c hc => (lets_mem (Nat.le_refl 6)).2 ?_⟩
 have := h2 c hc
 omega
theorem f34_run {k n : Nat} {F : Nat} (hk0 : 0 < k) (hk : k ≤ 6) (hn : n ≤ 10) {K : List UInt8 → Option (Int × Int)} : ∀ (m v : Nat), n + 1 ≤ m + v → v ≤ n → f34_L0 F (k : Int) (n : Int) K m (cyc k 0 v, (v : Int)) = K (cyc k 0 n)
 | 0, v, h, hv => absurd h (by omega)
 | m + 1, v, h, hv => by
  rw [f34_L0, Option.bind_some]
  by_cases hv' : v < n
  ·rw [decide_eq_true (show (v : Int) < (n : Int) by omega)]
   dsimp only
   have hr : remO (v : Int) (k : Int) = some ((v % k : Nat) : Int) := by
    unfold remO
    rw [decide_eq_false (show ¬ (k : Int) = 0 by omega), tmod_nat]
   have h2 : v % k < 6 := Nat.lt_of_lt_of_le (Nat.mod_lt v hk0) hk
   have hb : bytesN [97 + ((v % k : Nat) : Int)] = [cyL k v] := by
    have h1 := @bytesN_ints [cyL k v]
    unfold ints at h1
    rw [List.map_cons, List.map_nil] at h1
    unfold cyL at h1 ⊢
    rw [let_nat h2] at h1
    exact h1
   rw [hr, Option.bind_some, wrap64 (z := 97 + ((v % k : Nat) : Int)) (by omega) (by omega), Option.bind_some, wrap8 (by omega) (by omega), Option.bind_some, hb, Option.bind_some, sadd_at (by rw [cyc_len]; simp; omega), Option.bind_some, wrap_nat (by omega), Option.bind_some, show cyc k 0 v ++ [cyL k v] = cyc k 0 (v + 1) by rw [cyc_snoc, Nat.zero_add]]
   exact f34_run hk0 hk hn m (v + 1) (by omega) (by omega)
  ·obtain rfl : v = n := by omega
   rw [decide_eq_false (by omega)]
theorem most_same {x y : Int} {F : Nat} (hF : 1100 ≤ F) : ∃ r, f33S F x y = some r ∧ f34S F x y = some r := by
 by_cases h : (1 ≤ x ∧ x ≤ 6) ∧ (0 ≤ y ∧ y ≤ 10)
 ·obtain ⟨k, rfl⟩ := Int.eq_ofNat_of_zero_le (show 0 ≤ x by omega)
  obtain ⟨n, rfl⟩ := Int.eq_ofNat_of_zero_le (show 0 ≤ y by omega)
  have hk0 : 0 < k := by omega
  have hk : k ≤ 6 := by omega
  have hn : n ≤ 10 := by omega
  refine ⟨_, f33_law (by omega) hk0 hk hn, ?_⟩
  unfold f34S
  rw [f62_law, Option.bind_some, decide_eq_true (show (1 : Int) ≤ (k : Int) by omega), decide_eq_true (show (k : Int) ≤ 6 by omega)]
  try dsimp only [Bool.and_self]
  rw [f62_law, Option.bind_some, decide_eq_true (show (0 : Int) ≤ (n : Int) by omega), decide_eq_true (show (n : Int) ≤ 10 by omega)]
  try dsimp only [Bool.and_self]
  have q := f34_run (F := F) hk0 hk hn (K := fun v14 => (f60S F v14).bind fun x15 => some (x15, 0)) F 0 (by omega) (by omega)
  refine Eq.trans q ?_
  try dsimp only
  rw [f60_law (by rw [cyc_len]; exact hn) (fun c hc => lets_up hk (cyc_mem hk0 c hc)) hF, Option.bind_some]
 ·refine ⟨(0, 1), ?_, ?_⟩
  ·unfold f33S
   rw [Option.bind_some]
   by_cases h1 : x < 1
   ·rw [decide_eq_true h1]
   ·rw [decide_eq_false h1]
    dsimp only
    rw [Option.bind_some]
    by_cases h2 : 6 < x
    ·rw [decide_eq_true h2]
    ·rw [decide_eq_false h2]
     dsimp only
     rw [Option.bind_some]
     by_cases h3 : y < 0
     ·rw [decide_eq_true h3]
     ·rw [decide_eq_false h3]
      dsimp only
      rw [Option.bind_some, decide_eq_true (show 10 < y by omega)]
  ·unfold f34S
   rw [f62_law, Option.bind_some]
   by_cases h1 : 1 ≤ x ∧ x ≤ 6
   ·rw [decide_eq_true h1.1, decide_eq_true h1.2]
    try dsimp only [Bool.and_self]
    rw [f62_law, Option.bind_some]
    have : (decide (0 ≤ y) && decide (y ≤ 10)) = false := by
     rw [Bool.and_eq_false_iff, decide_eq_false_iff_not, decide_eq_false_iff_not]; omega
    rw [this]
    rfl
   ·have : (decide (1 ≤ x) && decide (x ≤ 6)) = false := by
     rw [Bool.and_eq_false_iff, decide_eq_false_iff_not, decide_eq_false_iff_not]; omega
    rw [this]
theorem f35_run {l : List (List UInt8)} {F : Nat} {K : Unit → Option Bool} (hl : l.length ≤ 1024) : ∀ (n j : Nat), l.length + 1 ≤ n + j → j ≤ l.length → f35_L0 F l l K n (j : Int) = K ()
 | 0, j, h, hj => absurd h (by omega)
 | n + 1, j, h, hj => by
  rw [f35_L0, Option.bind_some, Option.bind_some]
  by_cases hj' : j < l.length
  ·rw [decide_eq_true (show (j : Int) < (l.length : Int) by omega)]
   dsimp only
   have hg : gI l (j : Int) = some l[j] := List.getElem?_eq_getElem hj'
   rw [hg, Option.bind_some, Option.bind_some, Option.bind_some, decide_eq_true rfl]
   dsimp only
   rw [wrap_nat (by omega), Option.bind_some]
   exact f35_run hl n (j + 1) (by omega) (by omega)
  ·rw [decide_eq_false (show ¬ (j : Int) < (l.length : Int) by omega)]
theorem f35_self {l : List (List UInt8)} {F : Nat} (hl : l.length ≤ 1024) (hF : 1100 ≤ F) : f35S F l l = some true := by
 unfold f35S
 rw [Option.bind_some, Option.bind_some, Option.bind_some, decide_eq_true rfl]
 dsimp only
 exact f35_run hl F 0 (by omega) (by omega)
theorem parts_same {w : List UInt8} {z : Int} {F : Nat} (hF : 1100 ≤ F) : ∃ c c' l e, f31S F w z = some ((c, l), e) ∧ f32S F w z = some ((c', l), e) ∧ l.length ≤ 1024 := by
 unfold f31S f31O f32S
 rw [f26_any (by omega), Option.bind_some, Option.bind_some]
 by_cases hc : checkW w = 0
 ·obtain ⟨h10, hlet⟩ := checkW_lets hc
  rw [if_pos hc, decide_eq_true hc]
  dsimp only
  rw [Option.bind_some, f62_law, Option.bind_some]
  by_cases h0 : z < 0
  ·rw [if_pos h0, decide_eq_false (show ¬ 0 ≤ z by omega)]
   exact ⟨_, _, _, _, rfl, rfl, by simp⟩
  ·rw [if_neg h0, decide_eq_true (show 0 ≤ z by omega), Bool.true_and]
   by_cases h1 : (w.length : Int) < z
   ·rw [if_pos h1, decide_eq_false (show ¬ z ≤ w.length by omega)]
    exact ⟨_, _, _, _, rfl, rfl, by simp⟩
   ·rw [if_neg h1, decide_eq_true (show z ≤ w.length by omega)]
    obtain ⟨n, rfl⟩ := Int.eq_ofNat_of_zero_le (show 0 ≤ z by omega)
    dsimp only
    obtain ⟨ck, q⟩ := f63_law hF (n := n) (D := F) (w := w) (by omega) (by omega) h10
    rw [q, Option.bind_some]
    dsimp only
    rw [Int.toNat_natCast, srt_eq hlet (by omega)]
    exact ⟨_, _, _, _, rfl, rfl, sz_len h10⟩
 ·rw [if_neg hc, decide_eq_false hc]
  exact ⟨_, _, _, _, rfl, rfl, by simp⟩
theorem count_same {w : List UInt8} {F : Nat} (hF : 1100 ≤ F) : ∃ r, f29S F w = some r ∧ f30S F w = some r := by
 by_cases hc : checkW w = 0
 ·obtain ⟨h10, hlet⟩ := checkW_lets hc
  refine ⟨_, f29_law hc (by omega), ?_⟩
  unfold f30S
  rw [f26_any (by omega), Option.bind_some, hc, Option.bind_some, decide_eq_true rfl]
  dsimp only
  rw [f60_law h10 hlet hF, Option.bind_some]
 ·refine ⟨(0, checkW w), ?_, ?_⟩
  ·unfold f29S
   simp only [Option.bind_some, decide_eq_false hc]
  ·unfold f30S
   rw [f26_any (by omega), Option.bind_some, Option.bind_some, decide_eq_false hc]
theorem parts_law {w : List UInt8} {z y : Int} {F : Nat} (hF : 1100 ≤ F) : f4S F w z y = some true := by
 unfold f4S
 rw [show f16S F w = some (decide (60 < w.length)) from f16_law, Option.bind_some]
 cases decide (60 < w.length) with
 | true => rfl
 | false =>
  dsimp only
  obtain ⟨⟨a, b⟩, a1, a2⟩ := count_same (w := w) hF
  obtain ⟨c, c', l, e, b1, b2, b3⟩ := parts_same (w := w) (z := z) hF
  obtain ⟨⟨p, q⟩, m1, m2⟩ := most_same (x := y) (y := z) hF
  rw [a1, Option.bind_some]
  dsimp only
  rw [a2, Option.bind_some]
  dsimp only
  rw [b1, Option.bind_some]
  dsimp only
  rw [b2, Option.bind_some]
  dsimp only
  rw [m1, Option.bind_some]
  dsimp only
  rw [m2, Option.bind_some]
  dsimp only
  rw [Option.bind_some, decide_eq_true rfl]
  dsimp only
  rw [Option.bind_some, decide_eq_true rfl]
  dsimp only
  rw [f35_self b3 hF, Option.bind_some]
  dsimp only
  rw [Option.bind_some, decide_eq_true rfl]
  dsimp only
  rw [Option.bind_some, decide_eq_true rfl]
  dsimp only
  rw [Option.bind_some, decide_eq_true rfl]
theorem shortParts_is (s : ByteArray) (z y : Int) : E Try.prog Y0 4 [.v (.string s), .v (.int .i64 z), .v (.int .i64 y)] [] = some (.v (.bool true), [], none) := by
 have : s = bs s.data.toList := by simp
 rw [this]
 exact f4_is (F := 1100) (parts_law (Nat.le_refl _))
end Go.Proofs.Ytmnmfmghmenkkaa

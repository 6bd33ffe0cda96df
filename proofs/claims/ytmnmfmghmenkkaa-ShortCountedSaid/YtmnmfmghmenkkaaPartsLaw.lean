/-
  ShortParts: parts are counted and listed as stated.
  Conditions: none; lemmas.
-/
import Derived.Test.YtmnmfmghmenkkaaLaw4
import Derived.Test.YtmnmfmghmenkkaaMostLaw
set_option linter.unusedSimpArgs false
set_option linter.unusedVariables false
namespace Go.Proofs.Ytmnmfmghmenkkaa
open Go.Abs Go.Pur
set_option maxRecDepth 100000
def sz : Nat → List UInt8 → List (List UInt8)
 | 0, _ => [[]]
 | n + 1, w => (lets 6).flatMap fun c => match bhd w c with
  | some w' => (sz n w').map (c :: ·)
  | none => []
theorem sz_mem : ∀ {n : Nat} {w p : List UInt8}, p ∈ sz n w → leftW w p = true ∧ p.length = n
 | 0, w, p, h => by
  rw [sz, List.mem_singleton] at h
  subst h
  exact ⟨left_nil, rfl⟩
 | n + 1, w, p, h => by
  rw [sz, List.mem_flatMap] at h
  obtain ⟨c, hc, h⟩ := h
  split at h
  ·rename_i w' hb
   obtain ⟨q, hq, rfl⟩ := List.mem_map.1 h
   obtain ⟨h1, h2⟩ := sz_mem hq
   exact ⟨by rw [bhd_left, hb]; exact h1, by simp [h2]⟩
  ·cases h
theorem sz_all : ∀ {n : Nat} {w p : List UInt8}, (∀ c ∈ w, c ∈ lets 6) → leftW w p = true → p.length = n → p ∈ sz n w
 | 0, w, p, hw, h, hn => by
  rw [sz, List.mem_singleton]
  exact List.length_eq_zero_iff.1 hn
 | n + 1, w, [], hw, h, hn => by cases hn
 | n + 1, w, c :: p, hw, h, hn => by
  rw [sz, List.mem_flatMap]
  have hs := leftW_sub.1 h
  refine ⟨c, hw c (hs.mem List.mem_cons_self), ?_⟩
  rw [bhd_left] at h
  cases hb : bhd w c with
  | none => rw [hb] at h; cases h
  | some w' =>
   rw [hb] at h
   exact List.mem_map.2 ⟨p, sz_all (bhd_all hb hw) h (by simpa using hn), rfl⟩
theorem lets6_lt : (lets 6).Pairwise (· < ·) := by decide
theorem sz_sorted : ∀ {n : Nat} {w : List UInt8}, (sz n w).Pairwise (· < ·)
 | 0, w => by rw [sz]; exact List.pairwise_singleton _ _
 | n + 1, w => by
  rw [sz, List.pairwise_flatMap]
  refine ⟨fun c _ => ?_, lets6_lt.imp ?_⟩
  ·split
   ·rw [List.pairwise_map]
    exact sz_sorted.imp fun h => List.cons_lt_cons_iff.2 (.inr ⟨rfl, h⟩)
   ·exact List.Pairwise.nil
  ·intro c d h x hx y hy
   split at hx
   ·split at hy
    ·obtain ⟨p, _, rfl⟩ := List.mem_map.1 hx
     obtain ⟨q, _, rfl⟩ := List.mem_map.1 hy
     exact List.cons_lt_cons_iff.2 (.inl h)
    ·cases hy
   ·cases hx
theorem sz_nodup {n : Nat} {w : List UInt8} : (sz n w).Nodup := sz_sorted.imp fun h e => by
 subst e
 exact List.lt_irrefl _ h
theorem eq_of_sorted : ∀ {l m : List (List UInt8)}, l.Pairwise (· < ·) → m.Pairwise (· ≤ ·) → m.Nodup → (∀ x, x ∈ l ↔ x ∈ m) → l = m
 | [], [], _, _, _, _ => rfl
 | [], b :: m, _, _, _, h => absurd ((h b).2 List.mem_cons_self) (by simp)
 | a :: l, [], _, _, _, h => absurd ((h a).1 List.mem_cons_self) (by simp)
 | a :: l, b :: m, hl, hm, hn, h => by
  rw [List.pairwise_cons] at hl hm
  rw [List.nodup_cons] at hn
  have e : a = b := Classical.byContradiction fun ne => by
   have h1 : a ∈ m := ((List.mem_cons.1 ((h a).1 List.mem_cons_self)).resolve_left ne)
   have h2 : b ∈ l := ((List.mem_cons.1 ((h b).2 List.mem_cons_self)).resolve_left (Ne.symm ne))
   exact List.not_lt.2 (hm.1 a h1) (hl.1 b h2)
  subst e
  congr 1
  refine eq_of_sorted hl.2 hm.2 hn.2 fun x => ?_
  constructor
  ·intro hx
   refine (List.mem_cons.1 ((h x).1 (List.mem_cons_of_mem _ hx))).resolve_left fun e => ?_
   subst e
   exact List.lt_irrefl _ (hl.1 x hx)
  ·intro hx
   refine (List.mem_cons.1 ((h x).2 (List.mem_cons_of_mem _ hx))).resolve_left fun e => ?_
   subst e
   exact hn.1 hx
theorem srt_eq {n : Nat} {w : List UInt8} (hw : ∀ c ∈ w, c ∈ lets 6) (hn : n ≤ w.length) : srt (allR w.length w n) = sz n w := by
 obtain ⟨h1, h2⟩ := allR_mem (n := w.length) (l := w) (Nat.le_refl _)
 have hp : (srt (allR w.length w n)).Perm (allR w.length w n) := List.mergeSort_perm _ _
 refine (eq_of_sorted sz_sorted ?_ (hp.nodup_iff.2 (h1 n)) fun x => ?_).symm
 ·have := List.pairwise_mergeSort (le := fun (x y : List UInt8) => decide (x ≤ y)) (fun a b c h1 h2 => by
   simp only [decide_eq_true_eq] at *
   exact List.le_trans h1 h2) (fun a b => by
   simp only [Bool.or_eq_true, decide_eq_true_eq]
   exact List.le_total a b) (allR w.length w n)
  exact this.imp fun h => by simpa using h
 ·rw [hp.mem_iff, h2]
  constructor
  ·intro h
   obtain ⟨h3, h4⟩ := sz_mem h
   exact ⟨leftW_sub.1 h3, h4⟩
  ·rintro ⟨h3, h4⟩
   exact sz_all hw (leftW_sub.2 h3) h4
theorem sz_len {n : Nat} {w : List UInt8} (hw : w.length ≤ 10) : (sz n w).length ≤ 1024 := by
 have h1 : (sz n w).length ≤ dl w := nodup_le (m := prt w) sz_nodup fun x hx => prt_mem.2 (sz_mem hx).1
 have h2 := dl_pow (w := w)
 have h3 : 2 ^ w.length ≤ 2 ^ 10 := Nat.pow_le_pow_right (by decide) hw
 omega
theorem checkW_lets {w : List UInt8} (h : checkW w = 0) : w.length ≤ 10 ∧ ∀ c ∈ w, c ∈ lets 6 := by
 obtain ⟨h1, h2⟩ := checkW_let h
 refine ⟨h1, fun c hc => (lets_mem (Nat.le_refl 6)).2 ?_⟩
 have := h2 c hc
 omega
theorem f35_run {l : List (List UInt8)} {F : Nat} {K : Unit → Option Bool} (hl : l.length ≤ 1024) : ∀ (n j : Nat), l.length + 1 ≤ n + j → j ≤ l.length → f35_L0 F l l K n (j : Int) = K ()
 | 0, j, h, hj => absurd h (by omega)
 | n + 1, j, h, hj => by
  rw [f35_L0, Option.bind_some, Option.bind_some]
  by_cases hj' : j < l.length
  ·rw [decide_eq_true (show (j : Int) < (l.length : Int) by omega)]
   dsimp only
   have hg : gI l (j : Int) = some l[j] := List.getElem?_eq_getElem hj'
   rw [hg, Option.bind_some, Option.bind_some, Option.bind_some, decide_eq_true rfl]
   dsimp only
   rw [wrap_nat (by omega), Option.bind_some]
   exact f35_run hl n (j + 1) (by omega) (by omega)
  ·rw [decide_eq_false (show ¬ (j : Int) < (l.length : Int) by omega)]
theorem f35_self {l : List (List UInt8)} {F : Nat} (hl : l.length ≤ 1024) (hF : 1100 ≤ F) : f35S F l l = some true := by
 unfold f35S
 rw [Option.bind_some, Option.bind_some, Option.bind_some, decide_eq_true rfl]
 dsimp only
 exact f35_run hl F 0 (by omega) (by omega)
end Go.Proofs.Ytmnmfmghmenkkaa

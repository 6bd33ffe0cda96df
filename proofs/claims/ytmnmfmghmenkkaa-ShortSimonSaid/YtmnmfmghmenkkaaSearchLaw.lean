/-
  The search of short.differ finds the first of the shortest texts that tell two words apart.
  Conditions: none; lemmas.
-/
import Derived.Test.YtmnmfmghmenkkaaDiff70
import Derived.Test.YtmnmfmghmenkkaaFirst49
import Derived.Test.YtmnmfmghmenkkaaMathC
set_option linter.unusedSimpArgs false
set_option linter.unusedVariables false
namespace Go.Proofs.Ytmnmfmghmenkkaa
set_option maxRecDepth 100000
def pos (w : List UInt8) : Nat → List UInt8 → Option Nat
 | i, [] => some i
 | i, c :: q => (nxN w i c).bind fun k => pos w k q
theorem pos_app {w u v : List UInt8} : ∀ {i : Nat}, pos w i (u ++ v) = (pos w i u).bind fun k => pos w k v := by
 induction u with
 | nil => intro i; rfl
 | cons c u ih =>
  intro i
  simp only [List.cons_append, pos]
  cases nxN w i c with
  | none => rfl
  | some k => exact ih
theorem bhd_drop {c : UInt8} : ∀ {l w' : List UInt8}, bhd l c = some w' → ∃ k, w' = l.drop k
 | [], _, h => by cases h
 | x :: l, w', h => by
  unfold bhd at h
  split at h
  ·cases h; exact ⟨1, rfl⟩
  ·obtain ⟨k, e⟩ := bhd_drop h
   exact ⟨k + 1, e⟩
theorem pos_left {w q : List UInt8} : ∀ {i : Nat}, leftW (w.drop i) q = (pos w i q).isSome := by
 induction q with
 | nil => intro i; rw [pos]; cases w.drop i <;> rfl
 | cons c q ih =>
  intro i
  rw [bhd_left, pos]
  unfold nxN
  cases hb : bhd (w.drop i) c with
  | none => rfl
  | some w' =>
   obtain ⟨k, e⟩ := bhd_drop hb
   rw [List.drop_drop] at e
   have e2 : w' = w.drop (w.length - w'.length) := by
    have hl : w'.length = w.length - (i + k) := by rw [e, List.length_drop]
    by_cases h : i + k ≤ w.length
    ·rw [hl, show w.length - (w.length - (i + k)) = i + k by omega]; exact e
    ·have h0 : w' = [] := List.eq_nil_of_length_eq_zero (by omega)
     rw [h0]; simp
   show leftW w' q = (pos w (w.length - w'.length) q).isSome
   rw [← ih, ← e2]
theorem pos0 {w q : List UInt8} : leftW w q = (pos w 0 q).isSome := pos_left (i := 0)
def Tel (a b q : List UInt8) : Prop := (pos a 0 q).isSome ≠ (pos b 0 q).isSome
theorem tel_left {a b q : List UInt8} : Tel a b q ↔ leftW a q ≠ leftW b q := by unfold Tel; rw [pos0, pos0]
theorem lt_app {x y : List UInt8} : ∀ {u v : List UInt8}, u.length = v.length → u < v → u ++ x < v ++ y
 | [], [], _, h => absurd h (List.lt_irrefl _)
 | [], _ :: _, h, _ => by cases h
 | _ :: _, [], h, _ => by cases h
 | a :: u, b :: v, hl, h => by
  rcases List.cons_lt_cons_iff.1 h with h | ⟨e, h⟩
  ·exact List.cons_lt_cons_iff.2 (.inl h)
  ·exact List.cons_lt_cons_iff.2 (.inr ⟨e, lt_app (by simpa using hl) h⟩)
theorem slt_app {u v x y : List UInt8} (h : slt u v) (hl : x.length = y.length) : slt (u ++ x) (v ++ y) := by
 rcases h with h | ⟨h1, h2⟩
 ·exact .inl (by simp only [List.length_append]; omega)
 ·exact .inr ⟨by simp only [List.length_append]; omega, lt_app h1 h2⟩
theorem lt_last {c d : UInt8} (h : c < d) : ∀ {u : List UInt8}, u ++ [c] < u ++ [d]
 | [] => List.cons_lt_cons_iff.2 (.inl h)
 | a :: u => List.cons_lt_cons_iff.2 (.inr ⟨rfl, lt_last h⟩)
theorem slt_last {c d : UInt8} {u : List UInt8} (h : c < d) : slt (u ++ [c]) (u ++ [d]) := .inr ⟨by simp, lt_last h⟩
theorem slt_len {u v : List UInt8} (h : slt u v) : u.length ≤ v.length := by rcases h with h | ⟨h, _⟩ <;> omega
theorem slt_take {p r : List UInt8} {k : Nat} (hk : k < p.length) (h : slt r (p.take (k + 1))) : slt r p := by
 rcases Nat.lt_or_ge (k + 1) p.length with h1 | h1
 ·exact slt_trans h (.inl (by rw [List.length_take]; omega))
 ·rwa [List.take_of_length_le h1] at h
theorem take_succ' {p : List UInt8} {k : Nat} (hk : k < p.length) : p.take (k + 1) = p.take k ++ [p[k]] := by rw [List.take_succ_eq_append_getElem hk]
section
variable {a b p : List UInt8}
structure I0 (a b : List UInt8) (M : List (Nat × Nat)) (Q : List Way) (Ls : List (List UInt8)) : Prop where
 pa : ∀ e ∈ Q, pos a 0 e.2.2 = some e.1 ∧ pos b 0 e.2.2 = some e.2.1 ∧ e.2.2 ∈ Ls
 so : Q.Pairwise fun e f => slt e.2.2 f.2.2
 lb : ∀ m ∈ M, ∃ L ∈ Ls, pos a 0 L = some m.1 ∧ pos b 0 L = some m.2
 le : ∀ L ∈ Ls, ∀ f ∈ Q, ∀ c, slt L (f.2.2 ++ [c])
 nd : M.Nodup
 bd : ∀ m ∈ M, m.1 ≤ 10 ∧ m.2 ≤ 10
def J3 (p : List UInt8) (Q : List Way) : Prop := ∃ k, k < p.length ∧ ∃ e ∈ Q, e.2.2 = p.take k
theorem inn (ha : a.length ≤ 10) (hb : b.length ≤ 10) (ht : Tel a b p) (hmin : ∀ q, Tel a b q → ¬ slt q p) (hpl : ∀ c ∈ p, c ∈ lets 6) {i j : Nat} {s : List UInt8} (hsa : pos a 0 s = some i) (hsb : pos b 0 s = some j) : ∀ {cs : List UInt8} {M : List (Nat × Nat)} {Q : List Way} {Ls : List (List UInt8)},
  I0 a b M Q Ls → (∀ L ∈ Ls, ∀ c ∈ cs, slt L (s ++ [c])) → (∀ f ∈ Q, slt s f.2.2 ) → cs.Pairwise (· < ·) → (J3 p Q ∨ ∃ k, ∃ hk : k < p.length, s = p.take k ∧ p[k] ∈ cs) →
  match stL a b i j s cs M Q with
  | (some r, _, _) => r = p
  | (none, M', Q') => ∃ Ls', I0 a b M' Q' Ls' ∧ J3 p Q' ∧ Q'.length + M.length = Q.length + M'.length := by
 intro cs
 induction cs with
 | nil =>
  intro M Q Ls h _ _ _ hj
  rcases hj with hj | ⟨k, _, _, h2⟩
  ·exact ⟨Ls, h, hj, rfl⟩
  ·cases h2
 | cons c cs ih =>
  intro M Q Ls h he hf hg hj
  have hg1 := (List.pairwise_cons.1 hg).1
  have hg2 := (List.pairwise_cons.1 hg).2
  have hra : pos a 0 (s ++ [c]) = nxN a i c := by
   rw [pos_app, hsa]
   show (nxN a i c).bind _ = _
   cases nxN a i c <;> rfl
  have hrb : pos b 0 (s ++ [c]) = nxN b j c := by
   rw [pos_app, hsb]
   show (nxN b j c).bind _ = _
   cases nxN b j c <;> rfl
  have hret : Tel a b (s ++ [c]) → s ++ [c] = p := fun htr => by
   have hm := hmin _ htr
   rcases hj with ⟨k, hk, e, heQ, hek⟩ | ⟨k, hk, e1, e2⟩
   ·exfalso
    have h1 := hf e heQ
    rw [hek] at h1
    exact hm (slt_take hk (by rw [take_succ' hk]; exact slt_app h1 rfl))
   ·rcases List.mem_cons.1 e2 with e2 | e2
    ·have h1 : s ++ [c] = p.take (k + 1) := by rw [take_succ' hk, e1, e2]
     rcases Nat.lt_or_ge (k + 1) p.length with h2 | h2
     ·exfalso
      exact hm (.inl (by rw [h1, List.length_take]; omega))
     ·rw [h1, List.take_of_length_le h2]
    ·exfalso
     exact hm (slt_take hk (by rw [take_succ' hk, e1]; exact slt_last (hg1 _ e2)))
  have hskip : (nxN a i c = none ∧ nxN b j c = none) ∨ (∃ x y, nxN a i c = some x ∧ nxN b j c = some y ∧ (x, y) ∈ M) → (J3 p Q ∨ ∃ k, ∃ hk : k < p.length, s = p.take k ∧ p[k] ∈ cs) := fun hc => by
   rcases hj with hj | ⟨k, hk, e1, e2⟩
   ·exact .inl hj
   ·rcases List.mem_cons.1 e2 with e2 | e2
    ·exfalso
     have hp : p = (s ++ [c]) ++ p.drop (k + 1) := by
      rw [e1, ← e2, ← take_succ' hk, List.take_append_drop]
     rcases hc with ⟨n1, n2⟩ | ⟨x, y, n1, n2, hm⟩
     ·apply ht
      rw [hp, pos_app, pos_app (w := b), hra, hrb, n1, n2]
      rfl
     ·obtain ⟨L, hL, l1, l2⟩ := h.lb _ hm
      have hs : slt L (s ++ [c]) := he L hL c List.mem_cons_self
      refine hmin (L ++ p.drop (k + 1)) ?_ ?_
      ·have ht2 := ht
       unfold Tel at ht2 ⊢
       rw [hp, pos_app, pos_app (w := b), hra, hrb, n1, n2] at ht2
       rw [pos_app, pos_app (w := b), l1, l2]
       simpa using ht2
      ·have := slt_app hs (rfl : (p.drop (k + 1)).length = (p.drop (k + 1)).length)
       rwa [← hp] at this
    ·exact .inr ⟨k, hk, e1, e2⟩
  have he' : ∀ L ∈ Ls, ∀ d ∈ cs, slt L (s ++ [d]) := fun L hL d hd => he L hL d (List.mem_cons_of_mem _ hd)
  rw [stL]
  rcases hna : nxN a i c with _ | x <;> rcases hnb : nxN b j c with _ | y
  ·exact ih h he' hf hg2 (hskip (.inl ⟨hna, hnb⟩))
  ·exact hret (by unfold Tel; rw [hra, hrb, hna, hnb]; simp)
  ·exact hret (by unfold Tel; rw [hra, hrb, hna, hnb]; simp)
  ·dsimp only
   by_cases hm : (x, y) ∈ M
   ·rw [if_pos hm]
    exact ih h he' hf hg2 (hskip (.inr ⟨x, y, hna, hnb, hm⟩))
   ·rw [if_neg hm]
    have hnew : I0 a b ((x, y) :: M) (Q ++ [(x, y, s ++ [c])]) ((s ++ [c]) :: Ls) := by
     refine ⟨fun e he1 => ?_, ?_, fun m hm1 => ?_, fun L hL f hf1 d => ?_, List.nodup_cons.2 ⟨hm, h.nd⟩, fun m hm1 => ?_⟩
     ·rcases List.mem_append.1 he1 with h1 | h1
      ·obtain ⟨q1, q2, q3⟩ := h.pa e h1
       exact ⟨q1, q2, List.mem_cons_of_mem _ q3⟩
      ·rw [List.mem_singleton.1 h1]
       exact ⟨by rw [← hna]; exact hra, by rw [← hnb]; exact hrb, List.mem_cons_self⟩
     ·rw [List.pairwise_append]
      refine ⟨h.so, List.pairwise_singleton _ _, fun e h1 f h2 => ?_⟩
      rw [List.mem_singleton.1 h2]
      exact he _ (h.pa e h1).2.2 c List.mem_cons_self
     ·rcases List.mem_cons.1 hm1 with rfl | hm1
      ·exact ⟨s ++ [c], List.mem_cons_self, by rw [← hna]; exact hra, by rw [← hnb]; exact hrb⟩
      ·obtain ⟨L, hL, q1, q2⟩ := h.lb m hm1
       exact ⟨L, List.mem_cons_of_mem _ hL, q1, q2⟩
     ·rcases List.mem_cons.1 hL with rfl | hL
      ·rcases List.mem_append.1 hf1 with h1 | h1
       ·exact slt_app (hf f h1) rfl
       ·rw [List.mem_singleton.1 h1]
        exact .inl (by simp)
      ·rcases List.mem_append.1 hf1 with h1 | h1
       ·exact h.le L hL f h1 d
       ·rw [List.mem_singleton.1 h1]
        exact slt_trans (he L hL c List.mem_cons_self) (.inl (by simp))
     ·rcases List.mem_cons.1 hm1 with rfl | hm1
      ·have := nx_le hna
       have := nx_le hnb
       exact ⟨by simp only; omega, by simp only; omega⟩
      ·exact h.bd m hm1
    have hj' : J3 p (Q ++ [(x, y, s ++ [c])]) ∨ ∃ k, ∃ hk : k < p.length, s = p.take k ∧ p[k] ∈ cs := by
     rcases hj with ⟨k, hk, e, h1, h2⟩ | ⟨k, hk, e1, e2⟩
     ·exact .inl ⟨k, hk, e, List.mem_append_left _ h1, h2⟩
     ·rcases List.mem_cons.1 e2 with e2 | e2
      ·left
       have h1 : s ++ [c] = p.take (k + 1) := by rw [take_succ' hk, e1, e2]
       rcases Nat.lt_or_ge (k + 1) p.length with h2 | h2
       ·exact ⟨k + 1, h2, _, List.mem_append_right _ (List.mem_singleton.2 rfl), h1⟩
       ·exfalso
        rw [List.take_of_length_le h2] at h1
        apply ht
        rw [← h1, hra, hrb, hna, hnb]
        rfl
      ·exact .inr ⟨k, hk, e1, e2⟩
    have := ih hnew (fun L hL d hd => by
     rcases List.mem_cons.1 hL with rfl | hL
     ·exact slt_last (hg1 d hd)
     ·exact he' L hL d hd) (fun f hf1 => by
     rcases List.mem_append.1 hf1 with h1 | h1
     ·exact hf f h1
     ·rw [List.mem_singleton.1 h1]
      exact .inl (by simp)) hg2 hj'
    revert this
    generalize stL a b i j s cs ((x, y) :: M) (Q ++ [(x, y, s ++ [c])]) = R
    obtain ⟨r, M', Q'⟩ := R
    cases r with
    | some r => exact fun h => h
    | none =>
     rintro ⟨Ls', q1, q2, q3⟩
     refine ⟨Ls', q1, q2, ?_⟩
     simp only [List.length_append, List.length_cons, List.length_nil] at q3
     omega
theorem lets6_sorted : (lets 6).Pairwise (· < ·) := by decide
theorem bfs_p (ha : a.length ≤ 10) (hb : b.length ≤ 10) (ht : Tel a b p) (hmin : ∀ q, Tel a b q → ¬ slt q p) (hpl : ∀ c ∈ p, c ∈ lets 6) {most : Int} (hmost : (p.length : Int) ≤ most) : ∀ {n : Nat} {M : List (Nat × Nat)} {Q : List Way} {Ls : List (List UInt8)},
  I0 a b M Q Ls → J3 p Q → 121 - M.length + Q.length < n → bfs a b most n M Q = some p := by
 intro n
 induction n with
 | zero => intro M Q Ls _ _ h; omega
 | succ n ih =>
  intro M Q Ls h hj hn
  cases Q with
  | nil => obtain ⟨k, _, e, he, _⟩ := hj; cases he
  | cons e Q =>
   obtain ⟨i, j, s⟩ := e
   have hso := List.pairwise_cons.1 h.so
   obtain ⟨hsa, hsb, hsL⟩ := h.pa _ List.mem_cons_self
   have hlen : (s.length : Int) < most := by
    obtain ⟨k, hk, e, he, h2⟩ := hj
    have hkl : (p.take k).length = k := by rw [List.length_take]; omega
    rcases List.mem_cons.1 he with rfl | he
    ·simp only at h2
     rw [← h2] at hkl
     omega
    ·have := slt_len (hso.1 e he)
     rw [h2, hkl] at this
     simp only at this
     omega
   rw [bfs, if_pos hlen]
   have h0 : I0 a b M Q Ls := ⟨fun e he => h.pa e (List.mem_cons_of_mem _ he), hso.2, h.lb, fun L hL f hf => h.le L hL f (List.mem_cons_of_mem _ hf), h.nd, h.bd⟩
   have := inn ha hb ht hmin hpl hsa hsb (cs := lets 6) h0 (fun L hL c _ => h.le L hL _ List.mem_cons_self c) (fun f hf => hso.1 f hf) lets6_sorted (by
    obtain ⟨k, hk, e, he, h2⟩ := hj
    rcases List.mem_cons.1 he with rfl | he
    ·exact .inr ⟨k, hk, h2, hpl _ (List.getElem_mem hk)⟩
    ·exact .inl ⟨k, hk, e, he, h2⟩)
   revert this
   generalize stL a b i j s (lets 6) M Q = R
   obtain ⟨r, M', Q'⟩ := R
   cases r with
   | some r => intro h; show some r = _; rw [show r = p from h]
   | none =>
    rintro ⟨Ls', q1, q2, q3⟩
    refine ih q1 q2 ?_
    have := pairs_len q1.nd q1.bd
    simp only [List.length_cons] at hn
    omega
theorem bfs_first (ha : a.length ≤ 10) (hb : b.length ≤ 10) (ht : Tel a b p) (hmin : ∀ q, Tel a b q → ¬ slt q p) (hpl : ∀ c ∈ p, c ∈ lets 6) {most : Int} (hmost : (p.length : Int) ≤ most) : bfs0 a b most = some p := by
 have hp : 0 < p.length := by
  rcases p with _ | ⟨c, p⟩
  ·exact absurd rfl ht
  ·simp
 refine bfs_p ha hb ht hmin hpl hmost (Ls := [[]]) ⟨fun e he => ?_, List.pairwise_singleton _ _, fun m hm => ?_, fun L hL f hf c => ?_, by simp, fun m hm => ?_⟩ ⟨0, hp, _, List.mem_singleton.2 rfl, rfl⟩ (by simp)
 ·rw [List.mem_singleton.1 he]; exact ⟨rfl, rfl, List.mem_singleton.2 rfl⟩
 ·rw [List.mem_singleton.1 hm]; exact ⟨[], List.mem_singleton.2 rfl, rfl, rfl⟩
 ·rw [List.mem_singleton.1 hL]; exact .inl (by simp)
 ·rw [List.mem_singleton.1 hm]; exact ⟨Nat.zero_le _, Nat.zero_le _⟩
theorem stL_sound {i j : Nat} {s r : List UInt8} (hsa : pos a 0 s = some i) (hsb : pos b 0 s = some j) : ∀ {cs : List UInt8} {M : List (Nat × Nat)} {Q : List Way}, (∀ e ∈ Q, pos a 0 e.2.2 = some e.1 ∧ pos b 0 e.2.2 = some e.2.1) →
  match stL a b i j s cs M Q with
  | (some r, _, _) => Tel a b r ∧ r.length = s.length + 1
  | (none, M', Q') => ∀ e ∈ Q', pos a 0 e.2.2 = some e.1 ∧ pos b 0 e.2.2 = some e.2.1 := by
 intro cs
 induction cs with
 | nil => intro M Q h; exact h
 | cons c cs ih =>
  intro M Q h
  have hra : pos a 0 (s ++ [c]) = nxN a i c := by
   rw [pos_app, hsa]
   show (nxN a i c).bind _ = _
   cases nxN a i c <;> rfl
  have hrb : pos b 0 (s ++ [c]) = nxN b j c := by
   rw [pos_app, hsb]
   show (nxN b j c).bind _ = _
   cases nxN b j c <;> rfl
  rw [stL]
  rcases hna : nxN a i c with _ | x <;> rcases hnb : nxN b j c with _ | y
  ·exact ih h
  ·exact ⟨by unfold Tel; rw [hra, hrb, hna, hnb]; simp, by simp⟩
  ·exact ⟨by unfold Tel; rw [hra, hrb, hna, hnb]; simp, by simp⟩
  ·dsimp only
   by_cases hm : (x, y) ∈ M
   ·rw [if_pos hm]; exact ih h
   ·rw [if_neg hm]
    refine ih fun e he => ?_
    rcases List.mem_append.1 he with h1 | h1
    ·exact h e h1
    ·rw [List.mem_singleton.1 h1]
     exact ⟨by rw [← hna]; exact hra, by rw [← hnb]; exact hrb⟩
theorem bfs_sound {most : Int} {r : List UInt8} : ∀ {n : Nat} {M : List (Nat × Nat)} {Q : List Way}, (∀ e ∈ Q, pos a 0 e.2.2 = some e.1 ∧ pos b 0 e.2.2 = some e.2.1) → bfs a b most n M Q = some r → Tel a b r ∧ (r.length : Int) ≤ most := by
 intro n
 induction n with
 | zero => intro M Q _ h; cases h
 | succ n ih =>
  intro M Q hQ h
  cases Q with
  | nil => cases h
  | cons e Q =>
   obtain ⟨i, j, s⟩ := e
   rw [bfs] at h
   by_cases hl : (s.length : Int) < most
   ·rw [if_pos hl] at h
    obtain ⟨hsa, hsb⟩ := hQ _ List.mem_cons_self
    have := stL_sound (r := r) hsa hsb (cs := lets 6) (M := M) (Q := Q) fun e he => hQ e (List.mem_cons_of_mem _ he)
    revert this h
    generalize stL a b i j s (lets 6) M Q = R
    obtain ⟨r', M', Q'⟩ := R
    cases r' with
    | some r' =>
     intro h h2
     have h1 : r' = r := Option.some.inj h
     subst h1
     exact ⟨h2.1, by have h3 : r'.length = s.length + 1 := h2.2; omega⟩
    | none => exact fun h h2 => ih h2 h
   ·rw [if_neg hl] at h; cases h
theorem bfs0_sound {most : Int} {r : List UInt8} (h : bfs0 a b most = some r) : Tel a b r ∧ (r.length : Int) ≤ most := bfs_sound (fun e he => by rw [List.mem_singleton.1 he]; exact ⟨rfl, rfl⟩) h
end
end Go.Proofs.Ytmnmfmghmenkkaa

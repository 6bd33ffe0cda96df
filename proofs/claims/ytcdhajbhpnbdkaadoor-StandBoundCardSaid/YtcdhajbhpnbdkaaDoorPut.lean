/-
  All plans are tried: the statements' own fewest, by the pure evaluator.
  Conditions: none; definitions and lemmas.
-/
import Derived.Test.YtcdhajbhpnbdkaaDoorSteps
set_option linter.unusedSimpArgs false
set_option linter.unusedVariables false
namespace Go.Proofs.YtcdhajbhpnbdkaaDoor
open Go.Abs Go.Pur
set_option maxRecDepth 100000
set_option maxHeartbeats 2000000
abbrev PSt := Nat × Nat × List Int
def putP (room : Int) : List Nat → List Int → Nat → Nat → PSt → PSt
 | [], plan, _, set, st => if st.1 < set then st else if set < st.1 then (set, 1, plan) else (st.1, st.2.1 + 1, st.2.2)
 | p :: r, plan, s, set, st => if st.1 < set then st else if s.testBit p then putP room r (plan ++ [-1]) s set st else if (cnt s : Int) < room then putP room r (plan ++ [-1]) (setB s p) (set + 1) st
  else (bitsN s).foldl (fun (st : PSt) (g : Nat) => putP room r (plan ++ [(g : Int)]) (setB (clrB s g) p) (set + 1) st) st
def comb (st : PSt) (n w : Nat) (f : List Int) : PSt := if n < st.1 then (n, w, f) else if n = st.1 then (st.1, st.2.1 + w, st.2.2) else st
theorem minL_cons {a : Nat} {l : List Nat} (h : l ≠ []) : minL (a :: l) = min a (minL l) := by
 obtain ⟨b, r, rfl⟩ := List.exists_cons_of_ne_nil h
 rfl
theorem sum_zero : ∀ (l : List Nat), (l.map fun _ => 0).sum = 0
 | [] => rfl
 | a :: l => by rw [List.map_cons, List.sum_cons, sum_zero l]
theorem comb_fold {n w : Nat → Nat} {f : Nat → List Int} : ∀ (l : List Nat) (st : PSt), l ≠ [] →
  l.foldl (fun st g => comb st (n g) (w g) (f g)) st = comb st (minL (l.map n)) ((l.map fun g => if n g = minL (l.map n) then w g else 0).sum) (match l.find? fun g => decide (n g = minL (l.map n)) with | some g => f g | none => [])
 | [], _, h => absurd rfl h
 | a :: r, st, _ => by
  by_cases hr : r = []
  ·subst hr; simp [minL]
  have ih := comb_fold (n := n) (w := w) (f := f) r (comb st (n a) (w a) (f a)) hr
  rw [List.foldl_cons, ih, List.map_cons, minL_cons (by simpa using hr)]
  generalize hM : minL (r.map n) = M
  have hz : ∀ K, K < M → (r.map fun g => if n g = K then w g else 0).sum = 0 := fun K hK => by
   have : ∀ g ∈ r, (if n g = K then w g else 0) = 0 := fun g hg => by
    have := minL_le (l := r.map n) (List.mem_map_of_mem hg)
    rw [hM] at this
    rw [if_neg (by omega)]
   have e : (r.map fun g => if n g = K then w g else 0) = r.map fun _ => 0 := List.map_congr_left this
   rw [e, sum_zero]
  clear ih
  rw [List.map_cons, List.sum_cons, List.find?_cons]
  rcases Nat.lt_trichotomy (n a) M with h | h | h
  ·rw [Nat.min_eq_left (by omega), hz _ h, if_pos rfl, decide_eq_true rfl, Nat.add_zero]
   simp only
   unfold comb
   repeat' split
   all_goals first | omega | rfl | (simp only [] at *; omega)
  ·subst h
   rw [Nat.min_self, if_pos rfl, decide_eq_true rfl]
   simp only
   unfold comb
   repeat' split
   all_goals first | rfl | (simp only [] at *; omega) | (simp only [Prod.mk.injEq]; omega) | (refine Prod.ext ?_ (Prod.ext ?_ ?_) <;> simp only <;> first | rfl | omega)
  ·rw [Nat.min_eq_right (by omega), if_neg (by omega), decide_eq_false (by omega), Nat.zero_add]
   simp only
   have key : ∀ W F, comb (comb st (n a) (w a) (f a)) M W F = comb st M W F := fun W F => by
    have e1 : ∀ st' : PSt, M < st'.1 → comb st' M W F = (M, W, F) := fun st' h => by unfold comb; rw [if_pos h]
    rcases Nat.lt_trichotomy (n a) st.1 with h2 | h2 | h2
    ·rw [e1 st (by omega), e1]
     unfold comb; rw [if_pos h2]; exact h
    ·rw [e1 st (by omega), e1]
     unfold comb; rw [if_neg (by omega), if_pos h2]; simp only; omega
    ·have : comb st (n a) (w a) (f a) = st := by unfold comb; rw [if_neg (by omega), if_neg (by omega)]
     rw [this]
   exact key _ _
theorem putP_eq {room : Int} (h1 : 1 ≤ room) : ∀ (l : List Nat) (plan : List Int) (s set : Nat) (st : PSt), putP room l plan s set st = comb st (need room l s + set) (ways room l s) (plan ++ firstN room l s)
 | [], plan, s, set, st => by
  simp only [putP, need, ways, bst, firstN, List.append_nil, Nat.zero_add, comb]
  repeat' split
  all_goals first | rfl | omega
 | p :: r, plan, s, set, st => by
  have hcut : ∀ n w f, st.1 < set → comb st (n + set) w f = st := fun n w f h => by unfold comb; rw [if_neg (by omega), if_neg (by omega)]
  simp only [putP]
  by_cases h0 : st.1 < set
  ·rw [if_pos h0, hcut _ _ _ h0]
  ·rw [if_neg h0]
   by_cases hb : s.testBit p = true
   ·rw [if_pos hb, putP_eq h1 r]
    unfold ways
    simp only [need, bst, firstN, if_pos hb, List.append_assoc, List.singleton_append]
   ·rw [if_neg hb]
    by_cases hc : (cnt s : Int) < room
    ·rw [if_pos hc, putP_eq h1 r]
     unfold ways
     simp only [need, bst, firstN, if_neg hb, if_pos hc, List.append_assoc, List.singleton_append]
     rw [show need room r (setB s p) + (set + 1) = need room r (setB s p) + 1 + set by omega]
    ·rw [if_neg hc]
     have hne := bits_ne h1 hc
     have hb' : s.testBit p = false := by simpa using hb
     have e : (fun (st : PSt) (g : Nat) => putP room r (plan ++ [(g : Int)]) (setB (clrB s g) p) (set + 1) st) = fun st g => comb st (need room r (setB (clrB s g) p) + (set + 1)) (ways room r (setB (clrB s g) p)) (plan ++ (g : Int) :: firstN room r (setB (clrB s g) p)) := by
      funext st g
      rw [putP_eq h1 r]
      simp
     have hM : minL ((bitsN s).map fun g => need room r (setB (clrB s g) p) + (set + 1)) = need room (p :: r) s + set := by
      have e2 : ((bitsN s).map fun g => need room r (setB (clrB s g) p) + (set + 1)) = ((bitsN s).map fun g => need room r (setB (clrB s g) p)).map (· + (set + 1)) := by rw [List.map_map]; rfl
      have e3 : ∀ (L : List Nat) (c : Nat), L ≠ [] → minL (L.map (· + c)) = minL L + c := by
       intro L c
       induction L with
       | nil => intro h; exact absurd rfl h
       | cons a L ih =>
        intro _
        by_cases hL : L = []
        ·subst hL; rfl
        ·rw [List.map_cons, minL_cons (by simpa using hL), minL_cons hL, ih hL]; omega
      rw [e2, e3 _ _ (by simpa using hne)]
      simp only [need, if_neg hb, if_neg hc]
      omega
     rw [e, comb_fold _ _ hne, hM]
     have hiff : ∀ g, (need room r (setB (clrB s g) p) + (set + 1) = need room (p :: r) s + set) ↔ (need room r (setB (clrB s g) p) + 1 = need room (p :: r) s) := fun g => by omega
     congr 1
     ·rw [ways_full h1 hb' hc]
      congr 1
      refine List.map_congr_left fun g _ => ?_
      by_cases hh : need room r (setB (clrB s g) p) + 1 = need room (p :: r) s
      ·rw [if_pos hh, if_pos ((hiff g).2 hh)]
      ·rw [if_neg hh, if_neg fun h => hh ((hiff g).1 h)]
     ·rw [show firstN room (p :: r) s = (match (bitsN s).find? fun g => decide (need room r (setB (clrB s g) p) + 1 = need room (p :: r) s) with | some g => (g : Int) :: firstN room r (setB (clrB s g) p) | none => []) by simp only [firstN]; rw [if_neg hb, if_neg hc]; rfl]
      have e4 : (fun g => decide (need room r (setB (clrB s g) p) + (set + 1) = need room (p :: r) s + set)) = fun g => decide (need room r (setB (clrB s g) p) + 1 = need room (p :: r) s) := by
       funext g
       exact decide_eq_decide.2 (hiff g)
      rw [e4]
      cases hf : (bitsN s).find? fun g => decide (need room r (setB (clrB s g) p) + 1 = need room (p :: r) s) with
      | some g => rfl
      | none =>
       have := minL_mem (l := (bitsN s).map fun g => need room r (setB (clrB s g) p)) (by simpa using hne)
       obtain ⟨g, hg, e⟩ := List.mem_map.1 this
       rw [List.find?_eq_none] at hf
       refine absurd ?_ (hf g hg)
       simp only [decide_eq_true_eq, need, if_neg hb, if_neg hc]
       omega
theorem putP_all {room : Int} {l : List Nat} (h1 : 1 ≤ room) (hn : l.length ≤ 12) : putP room l [] 0 0 (100, 0, []) = (need room l 0, ways room l 0, firstN room l 0) := by
 rw [putP_eq h1]
 have := (bst_le (room := room) l 0).1
 rw [bst_need h1] at this
 unfold comb
 rw [if_pos (by omega)]
 simp
theorem putP_bound {room : Int} (h1 : 1 ≤ room) {l : List Nat} {plan : List Int} {s set : Nat} {st : PSt} : (putP room l plan s set st).1 ≤ st.1 ∧ (putP room l plan s set st).2.1 ≤ st.2.1 + 12 ^ l.length := by
 rw [putP_eq h1]
 have := (bst_le (room := room) l s).2
 unfold comb ways
 split
 ·simp only; omega
 ·split
  ·simp only; omega
  ·omega
theorem firstN_len {room : Int} : ∀ (l : List Nat) (s : Nat), (firstN room l s).length ≤ l.length
 | [], s => by simp [firstN]
 | p :: r, s => by
  simp only [firstN]
  split
  ·simp; exact firstN_len r s
  ·split
   ·simp; exact firstN_len r _
   ·split
    ·simp; exact firstN_len r _
    ·simp
end Go.Proofs.YtcdhajbhpnbdkaaDoor

/-
  The plans of the three rules are plans; what stands by them, and how much is set.
  Conditions: none; definitions and lemmas.
-/
import Derived.Test.YtcdhajbhpnbdkaaDoorRunLaw
set_option linter.unusedSimpArgs false
set_option linter.unusedVariables false
namespace Go.Proofs.YtcdhajbhpnbdkaaDoor
open Go.Abs Go.Pur
set_option maxRecDepth 100000
section
variable {last recent : Bool} {room : Int} {pages : List Int}
def plansR (last recent : Bool) (room : Int) (pages : List Int) : List Int → Nat → List Int → List Int
 | [], _, _ => []
 | p :: r, t, now => gonR last room pages now p t :: plansR last recent room pages r (t + 1) (nowR recent now p (gonR last room pages now p t))
def nowsR (last recent : Bool) (room : Int) (pages : List Int) : List Int → Nat → List Int → List (List Int)
 | [], _, _ => []
 | p :: r, t, now => nowR recent now p (gonR last room pages now p t) :: nowsR last recent room pages r (t + 1) (nowR recent now p (gonR last room pages now p t))
def missR (last recent : Bool) (room : Int) (pages : List Int) : List Int → Nat → List Int → Nat
 | [], _, _ => 0
 | p :: r, t, now => (if p ∈ now then 0 else 1) + missR last recent room pages r (t + 1) (nowR recent now p (gonR last room pages now p t))
theorem refG_eq : ∀ (rest : List Int) (t : Nat) (now out : List Int), refG last recent room pages rest t now out = out ++ plansR last recent room pages rest t now
 | [], _, _, out => by simp [refG, plansR]
 | p :: r, t, now, out => by simp only [refG, plansR]; rw [refG_eq r]; simp
theorem plansR_len : ∀ (rest : List Int) (t : Nat) (now : List Int), (plansR last recent room pages rest t now).length = rest.length
 | [], _, _ => rfl
 | p :: r, t, now => by simp only [plansR, List.length_cons]; rw [plansR_len r]
theorem nowsR_len : ∀ (rest : List Int) (t : Nat) (now : List Int), (nowsR last recent room pages rest t now).length = rest.length
 | [], _, _ => rfl
 | p :: r, t, now => by simp only [nowsR, List.length_cons]; rw [nowsR_len r]
theorem missR_le : ∀ (rest : List Int) (t : Nat) (now : List Int), missR last recent room pages rest t now ≤ rest.length
 | [], _, _ => Nat.le_refl _
 | p :: r, t, now => by
  have := missR_le r (t + 1) (nowR recent now p (gonR last room pages now p t))
  simp only [missR, List.length_cons]
  split <;> omega
theorem latOf_pick {now : List Int} {t : Nat} : latOf pages now t = pickN (fun p => (nxt pages p t : Int)) (orderOf now) := by
 unfold latOf orderOf
 rw [pick_filter]
 congr 1
 funext g p
 unfold latG
 simp only [decide_eq_true_eq]
 by_cases h : p ∈ now ∧ (g < 0 ∨ nxt pages g t < nxt pages p t)
 ·rw [if_pos h, if_pos ⟨h.1, h.2.imp id fun h => by omega⟩]
 ·rw [if_neg h, if_neg fun h2 => h ⟨h2.1, h2.2.imp id fun h => by omega⟩]
theorem gonR_full {now : List Int} {s p t : Nat} (hr1 : 1 ≤ room) (h : Same now s) (hf : (p : Int) ∉ now ∧ (now.length : Int) = room) : gonR last room pages now p t ∈ now := by
 have hne : now ≠ [] := fun e => by rw [e] at hf; simp at hf; omega
 unfold gonR
 rw [if_pos hf]
 cases last with
 | false =>
  obtain ⟨a, l, rfl⟩ := List.exists_cons_of_ne_nil hne
  simp
 | true =>
  rw [if_pos rfl, latOf_pick, h.order]
  rcases pickN_mem (num := fun p => (nxt pages p t : Int)) (bitsL_nonneg h.lt) with ⟨_, e⟩ | hm
  ·obtain ⟨a, l, rfl⟩ := List.exists_cons_of_ne_nil hne
   have : a ∈ bitsL s := (h.memL a).1 (by simp)
   rw [e] at this; cases this
  ·exact (h.memL _).2 hm
theorem gonR_ok {now : List Int} {s p t : Nat} (hr1 : 1 ≤ room) (h : Same now s) (hp : p < 6) (hl : (now.length : Int) ≤ room) :
  errF room s p (gonR last room pages now p t) = 0 ∧ (gonR last room pages now p t = -1 ∨ 0 ≤ gonR last room pages now p t ∧ gonR last room pages now p t < 6) ∧ ((p : Int) ∈ now → gonR last room pages now p t = -1) := by
 have hfi := full_iff h hp hl
 by_cases hf : (p : Int) ∉ now ∧ (now.length : Int) = room
 ·have hm := gonR_full (last := last) (pages := pages) (t := t) hr1 h hf
  have hm2 := (h.mem _).1 hm
  refine ⟨?_, Or.inr ⟨hm2.1, hm2.2.1⟩, fun hpn => absurd hpn hf.1⟩
  unfold errF
  rw [if_pos (hfi.1 hf), if_pos hm2]
 ·have e : gonR last room pages now p t = -1 := by unfold gonR; rw [if_neg hf]
  rw [e]
  refine ⟨?_, Or.inl rfl, fun _ => rfl⟩
  unfold errF
  rw [if_neg (fun x => hf (hfi.2 x)), if_pos rfl]
def SameL : List (List Int) → List Nat → Prop
 | [], [] => True
 | a :: l, b :: m => Same a b ∧ SameL l m
 | _, _ => False
theorem SameL.len : ∀ {l : List (List Int)} {m : List Nat}, SameL l m → l.length = m.length
 | [], [], _ => rfl
 | a :: l, b :: m, h => by simp [h.2.len]
 | [], _ :: _, h => h.elim
 | _ :: _, [], h => h.elim
theorem SameL.at : ∀ {l : List (List Int)} {m : List Nat}, SameL l m → ∀ (i : Nat) (h1 : i < l.length) (h2 : i < m.length), Same l[i] m[i]
 | a :: l, b :: m, h, 0, _, _ => h.1
 | a :: l, b :: m, h, i + 1, h1, h2 => by
  simp only [List.getElem_cons_succ]
  exact h.2.at i (by simpa using h1) (by simpa using h2)
 | [], [], _, i, h1, _ => by simp at h1
 | [], _ :: _, h, _, _, _ => h.elim
 | _ :: _, [], h, _, _, _ => h.elim
theorem rule_flo (hr1 : 1 ≤ room) (hr2 : room ≤ 5) : ∀ (rest : List Int) (t s : Nat) (now : List Int) (set : Int) (out : List Nat), (∀ x ∈ rest, 0 ≤ x ∧ x ≤ 5) → Same now s → (now.length : Int) ≤ room →
  ∃ S, flo room (rest.zip (plansR last recent room pages rest t now)) s set out = (out ++ S, set + missR last recent room pages rest t now, 0) ∧ SameL (nowsR last recent room pages rest t now) S
 | [], t, s, now, set, out, _, _, _ => ⟨[], by simp [flo, plansR, missR], trivial⟩
 | x :: r, t, s, now, set, out, hx, h, hl => by
  obtain ⟨hx0, hx5⟩ := hx x (by simp)
  obtain ⟨p, rfl⟩ := Int.eq_ofNat_of_zero_le hx0
  have hp : p < 6 := by omega
  obtain ⟨he1, he2, he3⟩ := gonR_ok (last := last) (pages := pages) (t := t) hr1 h hp hl
  have hS := h.withR (recent := recent) hp he2
  have hcn : ((nowR recent now p (gonR last room pages now p t)).length : Int) ≤ room := by
   rw [hS.length]
   exact cnt_with hr1 hr2 h.lt hp he1 (by rw [← h.length]; exact hl)
  have hst : withB s p (gonR last room pages now p t) = s ↔ (p : Int) ∈ now := by
   rw [same_iff h hp he1, wo_mem]
   constructor
   ·exact fun h => h.1
   ·intro hm
    exact ⟨hm, by rw [he3 hm]; omega⟩
  simp only [plansR, nowsR, missR, List.zip_cons_cons, flo, Int.toNat_natCast]
  rw [if_pos he1]
  obtain ⟨S, e, hL⟩ := rule_flo hr1 hr2 r (t + 1) _ _ (if withB s p (gonR last room pages now p t) = s then set else set + 1) (out ++ [withB s p (gonR last room pages now p t)]) (fun y hy => hx y (by simp [hy])) hS hcn
  refine ⟨withB s p (gonR last room pages now p t) :: S, ?_, hS, hL⟩
  rw [e]
  simp only [List.append_assoc, List.singleton_append, Prod.mk.injEq, true_and, and_true]
  by_cases hm : (p : Int) ∈ now
  ·rw [if_pos (hst.2 hm), if_pos hm]; omega
  ·rw [if_neg (fun h => hm (hst.1 h)), if_neg hm]; omega
theorem rule_run (hc : chk room pages = 0) : ∃ S, floorsOf room pages (refPlan last recent room pages) = (S, (missR last recent room pages pages 0 [] : Int), 0) ∧ SameL (nowsR last recent room pages pages 0 []) S := by
 obtain ⟨hr1, hr2, hn, hpg⟩ := chk_ok hc
 have e : refPlan last recent room pages = plansR last recent room pages pages 0 [] := by
  unfold refPlan
  rw [if_pos hc, refG_eq]; rfl
 obtain ⟨S, e2, hL⟩ := rule_flo (last := last) (recent := recent) (pages := pages) hr1 hr2 pages 0 0 [] 0 [] hpg Same.nil (by simp; omega)
 refine ⟨S, ?_, hL⟩
 unfold floorsOf
 rw [if_pos hc, e, if_pos (plansR_len pages 0 []), e2]
 simp
end
theorem wo_snoc {l : List Int} {p : Int} (h : p ∉ l) : wo l p = l := wo_id h
theorem lru_step {k : Nat} {A B : List Int} {p : Int} (hk : 1 ≤ k) (hB : B.Nodup) (hB0 : ∀ x ∈ B, 0 ≤ x) (hl : B.length ≤ k + 1) (hA : A = if B.length ≤ k then B else B.tail) {gA gB : Int}
  (hgA : gA = if p ∉ A ∧ A.length = k then A.headD 0 else -1) (hgB : gB = if p ∉ B ∧ B.length = k + 1 then B.headD 0 else -1) :
  (nowR true B p gB).length ≤ k + 1 ∧ nowR true A p gA = (if (nowR true B p gB).length ≤ k then nowR true B p gB else (nowR true B p gB).tail) ∧ (p ∈ A → p ∈ B) := by
 have hN : ∀ (l : List Int) (g : Int), nowR true l p g = wo (wo l g) p ++ [p] := fun l g => by unfold nowR; rw [if_pos (Or.inl rfl)]
 have wlen : ∀ (l : List Int), l.Nodup → p ∈ l → (wo l p).length + 1 = l.length := fun l => by
  induction l with
  | nil => intro _ h; cases h
  | cons a l ih =>
   intro hn hm
   rw [List.nodup_cons] at hn
   by_cases e : a = p
   ·subst e
    have : wo (a :: l) a = l := by
     unfold wo
     rw [List.filter_cons_of_neg (by simp)]
     exact wo_id hn.1
    rw [this]; rfl
   ·have hm' : p ∈ l := by
     rcases List.mem_cons.1 hm with h | h
     ·exact absurd h.symm e
     ·exact h
    have : wo (a :: l) p = a :: wo l p := by unfold wo; rw [List.filter_cons_of_pos (by simpa using e)]
    rw [this, List.length_cons, List.length_cons, ih hn.2 hm']
 have hno : ∀ (l : List Int), (∀ x ∈ l, 0 ≤ x) → wo l (-1) = l := fun l h => wo_id fun hm => by have := h _ hm; omega
 by_cases hle : B.length ≤ k
 ·rw [if_pos hle] at hA
  have hA := hA.symm
  subst hA
  have e2 : ¬ (p ∉ B ∧ B.length = k + 1) := fun h => by omega
  rw [if_neg e2] at hgB
  subst hgB
  rw [hN, hN, hno B hB0]
  refine ⟨?_, ?_, fun h => h⟩
  ·have := @wo_length B p
   simp; omega
  ·by_cases hf : p ∉ B ∧ B.length = k
   ·rw [if_pos hf] at hgA
    obtain ⟨b, r, rfl⟩ := List.exists_cons_of_ne_nil (l := B) (fun e => by rw [e] at hf; simp at hf; omega)
    simp only [List.headD_cons] at hgA
    have hgA := hgA.symm
    subst hgA
    rw [List.nodup_cons] at hB
    have e1 : wo (b :: r) b = r := by unfold wo; rw [List.filter_cons_of_neg (by simp)]; exact wo_id hB.1
    have hpr : p ∉ r := fun h => hf.1 (by simp [h])
    have e3 : wo (b :: r) p = b :: r := wo_id hf.1
    rw [e1, wo_id hpr, e3]
    have : ¬ ((b :: r) ++ [p]).length ≤ k := by have := hf.2; simp at this ⊢; omega
    rw [if_neg this]
    rfl
   ·rw [if_neg hf] at hgA
    subst hgA
    rw [hno B hB0]
    have : (wo B p ++ [p]).length ≤ k := by
     by_cases hm : p ∈ B
     ·have := wlen B hB hm; simp; omega
     ·have : B.length ≠ k := fun e => hf ⟨hm, e⟩
      rw [wo_id hm]; simp; omega
    rw [if_pos this]
 ·rw [if_neg hle] at hA
  have hlen : B.length = k + 1 := by omega
  obtain ⟨b, r, rfl⟩ := List.exists_cons_of_ne_nil (l := B) (fun e => by rw [e] at hlen; simp at hlen)
  simp only [List.tail_cons] at hA
  subst hA
  rw [List.nodup_cons] at hB
  have hr0 : ∀ x ∈ A, 0 ≤ x := fun x hx => hB0 x (by simp [hx])
  have hAl : A.length = k := by simpa using hlen
  by_cases hpA : p ∈ A
  ·rw [if_neg (fun h => h.1 hpA)] at hgA
   rw [if_neg (fun h => h.1 (by simp [hpA]))] at hgB
   subst hgA hgB
   rw [hN, hN, hno _ hB0, hno _ hr0]
   have hbp : b ≠ p := fun e => hB.1 (e ▸ hpA)
   have e1 : wo (b :: A) p = b :: wo A p := by unfold wo; rw [List.filter_cons_of_pos (by simpa using hbp)]
   have e2 := wlen A hB.2 hpA
   rw [e1]
   refine ⟨by simp; omega, ?_, fun _ => by simp [hpA]⟩
   rw [if_neg (by simp; omega)]
   rfl
  ·rw [if_pos ⟨hpA, hAl⟩] at hgA
   obtain ⟨a, r, rfl⟩ := List.exists_cons_of_ne_nil (l := A) (fun e => by rw [e] at hAl; simp at hAl; omega)
   simp only [List.headD_cons] at hgA
   have hgA := hgA.symm
   subst hgA
   have hBn := hB.2
   rw [List.nodup_cons] at hBn
   have ea : wo (a :: r) a = r := by unfold wo; rw [List.filter_cons_of_neg (by simp)]; exact wo_id hBn.1
   have hpr : p ∉ r := fun h => hpA (by simp [h])
   rw [hN, hN, ea, wo_id hpr]
   by_cases hpb : b = p
   ·subst hpb
    rw [if_neg (fun h => h.1 (by simp))] at hgB
    subst hgB
    have e1 : wo (b :: a :: r) b = a :: r := by unfold wo; rw [List.filter_cons_of_neg (by simp)]; exact wo_id hB.1
    rw [hno _ hB0, e1]
    refine ⟨by simp at hAl ⊢; omega, ?_, fun h => absurd h hpA⟩
    rw [if_neg (by simp at hAl ⊢; omega)]
    rfl
   ·have hpB : p ∉ b :: a :: r := fun h => by
     rcases List.mem_cons.1 h with h | h
     ·exact hpb h.symm
     ·exact hpA h
    rw [if_pos ⟨hpB, hlen⟩] at hgB
    simp only [List.headD_cons] at hgB
    have hgB := hgB.symm
    subst hgB
    have e1 : wo (b :: a :: r) b = a :: r := by unfold wo; rw [List.filter_cons_of_neg (by simp)]; exact wo_id hB.1
    rw [e1, wo_id hpA]
    refine ⟨by simp at hAl ⊢; omega, ?_, fun h => absurd h hpA⟩
    rw [if_neg (by simp at hAl ⊢; omega)]
    rfl
end Go.Proofs.YtcdhajbhpnbdkaaDoor

/-
  Parts of words: all of them, each once; how many there are.
  The word with the most parts: the one in which the letters go around.
  Conditions: none; definitions and lemmas.
-/
import Derived.Test.YtmnmfmghmenkkaaMath5
import Derived.Test.YtmnmfmghmenkkaaPurM
set_option linter.unusedSimpArgs false
set_option linter.unusedVariables false
namespace Go.Proofs.Ytmnmfmghmenkkaa
open Go.Abs Go.Pur
set_option maxRecDepth 100000
theorem leftW_sub : ∀ {w p : List UInt8}, leftW w p = true ↔ p.Sublist w
 | w, [] => by simp [left_nil]
 | [], d :: p => by rw [leftW]; simp
 | c :: w, d :: p => by
  rw [leftW]
  by_cases h : c = d
  ·subst h
   rw [if_pos rfl, leftW_sub, List.cons_sublist_cons]
  ·rw [if_neg h, leftW_sub]
   constructor
   ·exact fun e => e.cons _
   ·intro e
    cases e with
    | cons _ e => exact e
    | cons_cons => exact absurd rfl h
def prt : List UInt8 → List (List UInt8)
 | [] => [[]]
 | c :: w => prt w ++ ((prt w).filter fun p => !leftW w (c :: p)).map (c :: ·)
theorem prt_mem : ∀ {w p : List UInt8}, p ∈ prt w ↔ leftW w p = true
 | [], p => by
  cases p with
  | nil => simp [prt, leftW]
  | cons d p => simp [prt, leftW]
 | c :: w, p => by
  rw [prt, List.mem_append, List.mem_map, prt_mem]
  cases p with
  | nil => simp [left_nil]
  | cons d p =>
   rw [leftW]
   by_cases h : c = d
   ·subst h
    rw [if_pos rfl]
    constructor
    ·rintro (h | ⟨q, hq, e⟩)
     ·exact leftW_sub.2 ((List.sublist_cons_self _ _).trans (leftW_sub.1 h))
     ·cases e
      exact prt_mem.1 (List.mem_filter.1 hq).1
    ·intro h
     by_cases h2 : leftW w (c :: p) = true
     ·exact .inl h2
     ·exact .inr ⟨p, List.mem_filter.2 ⟨prt_mem.2 h, by simp [h2]⟩, rfl⟩
   ·rw [if_neg h]
    constructor
    ·rintro (h | ⟨q, hq, e⟩)
     ·exact h
     ·cases e; exact absurd rfl h
    ·exact .inl
theorem prt_nodup : ∀ {w : List UInt8}, (prt w).Nodup
 | [] => by simp [prt]
 | c :: w => by
  rw [prt, List.nodup_append]
  refine ⟨prt_nodup, ?_, ?_⟩
  ·unfold List.Nodup
   rw [List.pairwise_map]
   exact (prt_nodup.filter _).imp fun h e => h (List.cons.inj e).2
  ·intro a ha b hb e
   subst e
   obtain ⟨q, hq, rfl⟩ := List.mem_map.1 hb
   have h1 := (List.mem_filter.1 hq).2
   rw [prt_mem.1 ha] at h1
   cases h1
theorem same_len {α : Type} [DecidableEq α] {l m : List α} (hl : l.Nodup) (hm : m.Nodup) (h : ∀ x, x ∈ l ↔ x ∈ m) : l.length = m.length :=
 Nat.le_antisymm (nodup_le hl fun x hx => (h x).1 hx) (nodup_le hm fun x hx => (h x).2 hx)
theorem len_parts {α : Type} (f : α → Bool) : ∀ l : List α, l.length = (l.filter f).length + (l.filter fun x => !f x).length
 | [] => rfl
 | a :: l => by
  have h := len_parts f l
  cases hf : f a <;> simp [hf] <;> omega
def dl (w : List UInt8) : Nat := (prt w).length
theorem tk_sub {f : Nat → Bool} {l : List UInt8} : ∀ k, (tk f l k).Sublist (l.take k)
 | 0 => by simp [tk]
 | k + 1 => by
  rw [tk, List.take_add_one]
  refine List.Sublist.append (tk_sub k) ?_
  split
  ·exact List.Sublist.refl _
  ·exact List.nil_sublist _
end Go.Proofs.Ytmnmfmghmenkkaa
set_option linter.unusedSimpArgs false
set_option linter.unusedVariables false
namespace Go.Proofs.Ytmnmfmghmenkkaa
open Go.Abs Go.Pur
set_option maxRecDepth 100000
def gD : List UInt8 → List UInt8 → Nat
 | _, [] => 0
 | m, c :: w => if c ∈ m then gD m w else dl w + gD (c :: m) w
def hdNot (m : List UInt8) : List UInt8 → Bool
 | [] => false
 | c :: _ => decide (c ∉ m)
def hdIs (c : UInt8) : List UInt8 → Bool
 | [] => false
 | d :: _ => decide (d = c)
theorem filt_or {α : Type} {f g h : α → Bool} : ∀ {l : List α}, (∀ x ∈ l, f x = (g x || h x) ∧ (g x && h x) = false) → (l.filter f).length = (l.filter g).length + (l.filter h).length
 | [], _ => rfl
 | a :: l, H => by
  have ih := filt_or (l := l) fun x hx => H x (List.mem_cons_of_mem _ hx)
  obtain ⟨h1, h2⟩ := H a List.mem_cons_self
  cases hg : g a <;> cases hh : h a <;> simp_all <;> omega
theorem heads (c : UInt8) {w : List UInt8} : ((prt w).filter (hdIs c)).length = ((prt w).filter fun p => leftW w (c :: p)).length := by
 suffices h : ((prt w).filter (hdIs c)).length = (((prt w).filter fun p => leftW w (c :: p)).map (c :: ·)).length by rwa [List.length_map] at h
 refine same_len (prt_nodup.filter _) ?_ fun p => ?_
 ·unfold List.Nodup
  rw [List.pairwise_map]
  exact (prt_nodup.filter _).imp fun h e => h (List.cons.inj e).2
 ·rw [List.mem_filter, prt_mem, List.mem_map]
  constructor
  ·rintro ⟨h1, h2⟩
   cases p with
   | nil => cases h2
   | cons d p =>
    have : d = c := of_decide_eq_true h2
    subst this
    refine ⟨p, List.mem_filter.2 ⟨prt_mem.2 ?_, h1⟩, rfl⟩
    exact leftW_sub.2 ((List.sublist_cons_self _ _).trans (leftW_sub.1 h1))
  ·rintro ⟨q, hq, rfl⟩
   exact ⟨(List.mem_filter.1 hq).2, by simp [hdIs]⟩
theorem gD_is : ∀ {w m : List UInt8}, gD m w = ((prt w).filter (hdNot m)).length
 | [], m => rfl
 | c :: w, m => by
  rw [gD, prt, List.filter_append, List.length_append, List.filter_map, List.length_map]
  by_cases h : c ∈ m
  ·rw [if_pos h, gD_is]
   have : (((prt w).filter fun p => !leftW w (c :: p)).filter (hdNot m ∘ (c :: ·))) = [] := by
    rw [List.filter_eq_nil_iff]
    intro p _
    simp [hdNot, h]
   rw [this]; rfl
  ·rw [if_neg h, gD_is]
   have h1 : (((prt w).filter fun p => !leftW w (c :: p)).filter (hdNot m ∘ (c :: ·))) = ((prt w).filter fun p => !leftW w (c :: p)) := by
    rw [List.filter_eq_self]
    intro p _
    simp [hdNot, h]
   have h2 : ((prt w).filter (hdNot m)).length = ((prt w).filter (hdNot (c :: m))).length + ((prt w).filter (hdIs c)).length := by
    refine filt_or fun p _ => ?_
    cases p with
    | nil => exact ⟨rfl, rfl⟩
    | cons d p =>
     simp only [hdNot, hdIs, List.mem_cons]
     by_cases h3 : d = c
     ·subst h3
      simp [h]
     ·simp [h3]
   have h3 := len_parts (fun p => leftW w (c :: p)) (prt w)
   have h4 := heads c (w := w)
   rw [h1]
   unfold dl
   omega
theorem dl_gD {w : List UInt8} : dl w = 1 + gD [] w := by
 rw [gD_is]
 have h1 := len_parts (hdNot []) (prt w)
 have h2 : ((prt w).filter fun p => !hdNot [] p).length = 1 := by
  have : ((prt w).filter fun p => !hdNot [] p).length = [([] : List UInt8)].length := by
   refine same_len (prt_nodup.filter _) (by simp) fun p => ?_
   rw [List.mem_filter, prt_mem]
   cases p with
   | nil => simp [left_nil, hdNot]
   | cons d p => simp [hdNot]
  rw [this]; rfl
 unfold dl
 omega
def hH (k : Nat) : Nat → List Nat
 | 0 => [1]
 | n + 1 => (1 + ((hH k n).take k).sum) :: hH k n
def sS (k j : Nat) : Nat → Nat
 | 0 => 0
 | n + 1 => ((hH k n).take j).sum
theorem sS_zero {k : Nat} : ∀ {n}, sS k 0 n = 0
 | 0 => rfl
 | n + 1 => by simp [sS]
theorem sS_succ {k j : Nat} : ∀ {n}, sS k (j + 1) (n + 1) = 1 + sS k k n + sS k j n
 | 0 => by simp [sS, hH]
 | n + 1 => by
  rw [sS, hH, List.take_succ_cons, List.sum_cons]
  simp only [sS]
theorem sS_mono {k : Nat} : ∀ {n j}, sS k j n ≤ sS k j (n + 1)
 | 0, j => Nat.zero_le _
 | n + 1, 0 => by rw [sS_zero]; exact Nat.zero_le _
 | n + 1, j + 1 => by
  rw [sS_succ, sS_succ]
  have h1 := sS_mono (k := k) (n := n) (j := k)
  have h2 := sS_mono (k := k) (n := n) (j := j)
  omega
theorem gD_le {k : Nat} : ∀ {w m : List UInt8}, m.Nodup → (∀ c ∈ m, c ∈ lets k) → (∀ c ∈ w, c ∈ lets k) → gD m w ≤ sS k (k - m.length) w.length
 | [], m, _, _, _ => Nat.zero_le _
 | c :: w, m, h1, h2, h3 => by
  rw [gD, List.length_cons]
  have h3' : ∀ x ∈ w, x ∈ lets k := fun x hx => h3 x (List.mem_cons_of_mem _ hx)
  by_cases h : c ∈ m
  ·rw [if_pos h]
   exact Nat.le_trans (gD_le h1 h2 h3') sS_mono
  ·rw [if_neg h]
   have hn : (c :: m).Nodup := List.nodup_cons.2 ⟨h, h1⟩
   have hs : ∀ x ∈ c :: m, x ∈ lets k := fun x hx => by
    rcases List.mem_cons.1 hx with rfl | hx
    ·exact h3 _ List.mem_cons_self
    ·exact h2 x hx
   have hk := nodup_le hn hs
   rw [lets_len, List.length_cons] at hk
   have g1 := gD_le (w := w) (m := []) (by simp) (by simp) h3'
   have g2 := gD_le hn hs h3'
   rw [List.length_cons] at g2
   rw [show k - m.length = (k - (m.length + 1)) + 1 by omega, sS_succ, dl_gD]
   simp only [List.length_nil, Nat.sub_zero] at g1
   omega
def cyL (k i : Nat) : UInt8 := UInt8.ofNat (97 + i % k)
def cyc (k : Nat) : Nat → Nat → List UInt8
 | _, 0 => []
 | i, n + 1 => cyL k i :: cyc k (i + 1) n
theorem cyL_mem {k i : Nat} (hk : 0 < k) : cyL k i ∈ lets k := List.mem_map.2 ⟨i % k, List.mem_range.2 (Nat.mod_lt _ hk), rfl⟩
theorem cyL_ne {k i t : Nat} (hk : k ≤ 6) (h0 : 0 < t) (ht : t < k) : cyL k (i + t) ≠ cyL k i := by
 intro e
 have h1 := Nat.mod_lt (i + t) (show 0 < k by omega)
 have h2 := Nat.mod_lt i (show 0 < k by omega)
 have := congrArg UInt8.toNat e
 unfold cyL at this
 rw [UInt8.toNat_ofNat', UInt8.toNat_ofNat'] at this
 have h3 : (i + t) % k = i % k := by omega
 have h4 := Nat.div_add_mod (i + t) k
 have h5 := Nat.div_add_mod i k
 rw [h3] at h4
 have h6 : k * ((i + t) / k) = k * (i / k) + t := by omega
 have h7 : k * ((i + t) / k - i / k) = t := by rw [Nat.mul_sub]; omega
 rcases Nat.eq_zero_or_pos ((i + t) / k - i / k) with hz | hz
 ·rw [hz] at h7; omega
 ·have := Nat.le_mul_of_pos_right k hz
  omega
theorem gD_cyc {k : Nat} (hk0 : 0 < k) (hk : k ≤ 6) : ∀ {n i : Nat} {m : List UInt8}, m.Nodup → (∀ c ∈ m, c ∈ lets k) → (∀ t, t < k - m.length → cyL k (i + t) ∉ m) → gD m (cyc k i n) = sS k (k - m.length) n
 | 0, i, m, _, _, _ => rfl
 | n + 1, i, m, h1, h2, h3 => by
  rw [cyc, gD]
  by_cases h : cyL k i ∈ m
  ·rw [if_pos h]
   have hz : k - m.length = 0 := by
    rcases Nat.eq_zero_or_pos (k - m.length) with hz | hz
    ·exact hz
    ·exact absurd h (h3 0 hz)
   rw [gD_cyc hk0 hk h1 h2 (fun t ht => by omega), hz, sS_zero, sS_zero]
  ·rw [if_neg h]
   have hn : (cyL k i :: m).Nodup := List.nodup_cons.2 ⟨h, h1⟩
   have hs : ∀ x ∈ cyL k i :: m, x ∈ lets k := fun x hx => by
    rcases List.mem_cons.1 hx with rfl | hx
    ·exact cyL_mem hk0
    ·exact h2 x hx
   have hl := nodup_le hn hs
   rw [lets_len, List.length_cons] at hl
   rw [gD_cyc hk0 hk hn hs (fun t ht => ?_), dl_gD, gD_cyc hk0 hk (m := []) (by simp) (by simp) (by simp), List.length_cons, show k - m.length = (k - (m.length + 1)) + 1 by omega, sS_succ]
   ·rfl
   ·rw [List.length_cons] at ht
    rw [List.mem_cons]
    rintro (e | e)
    ·rw [show i + 1 + t = i + (t + 1) by omega] at e
     exact cyL_ne hk (by omega) (by omega) e
    ·rw [show i + 1 + t = i + (t + 1) by omega] at e
     exact h3 (t + 1) (by omega) e
theorem most {k : Nat} (hk0 : 0 < k) (hk : k ≤ 6) {w : List UInt8} (hw : ∀ c ∈ w, c ∈ lets k) : dl w ≤ dl (cyc k 0 w.length) := by
 rw [dl_gD, dl_gD, gD_cyc hk0 hk (m := []) (by simp) (by simp) (by simp)]
 exact Nat.add_le_add_left (gD_le (by simp) (by simp) hw) 1
end Go.Proofs.Ytmnmfmghmenkkaa

/-
  ClerkForms, plainly: what leads to a headword, and what does not.
  Conditions: none; lemmas, no program in sight.
-/
import Derived.Test.YtjeadhfponlnnaaGreatDoorToldLaw
import Derived.Test.YtjeadhfponlnnaaGreatDoorWaysLaw
import Derived.Test.YtjeadhfponlnnaaGreatDoorNew16
set_option linter.unusedSimpArgs false
set_option linter.unusedVariables false
namespace Go.Proofs.YtjeadhfponlnnaaGreatDoor
open Go.RowKit Go.Pur Go.Clerk
theorem leftC_self : ∀ (f : Tx), leftC f f = true
 | [] => rfl
 | c :: f => by unfold leftC; rw [decide_eq_true rfl]; exact leftC_self f
theorem find_word {d : Desk} {e : Ent} (hD : DeskOK d) (he : e ∈ d.ents) : d.find e.word = (e.word, 0) := by
 obtain ⟨y, hy, h1, h2⟩ := getE_some (List.mem_map_of_mem (f := (·.word)) he : e.word ∈ keysE d.ents)
 unfold Desk.find
 rw [hy]
 show (y.word, 0) = _
 rw [h2]
theorem find_form {d : Desk} {e : Ent} (hD : DeskOK d) (he : e ∈ d.ents) (hf : e.form ≠ []) : d.find e.form = (e.word, 0) := by
 cases hg : getE e.form d.ents with
 | none =>
  exact find_yes hD hg (List.mem_map_of_mem (f := fun e : Ent => (e.word, e)) he) (by
   unfold isF
   rw [decide_eq_true rfl]
   cases hq : e.form with
   | nil => exact absurd hq hf
   | cons a l => rfl)
 | some y =>
  obtain ⟨h1, h2⟩ := getE_in hg
  have h3 := (hD.own e he hf).2 y h1 (by rw [h2]; exact leftC_self _)
  unfold Desk.find
  rw [hg]
  show (y.word, 0) = _
  rw [h3]
theorem kSet_mem {V : Type} {k : Tx} {v : V} {x : Tx × V} : ∀ {M : List (Tx × V)}, x ∈ kSet k v M → x = (k, v) ∨ x ∈ M
 | [], h => .inl (List.mem_singleton.1 h)
 | e :: M, h => by
  unfold kSet at h
  cases hd : decide (e.1 = k) with
  | true =>
   rw [hd] at h
   rcases List.mem_cons.1 h with h | h
   ·exact .inl h
   ·exact .inr (List.mem_cons_of_mem _ h)
  | false =>
   rw [hd] at h
   rcases List.mem_cons.1 h with h | h
   ·exact .inr (h ▸ List.mem_cons_self)
   ·rcases kSet_mem h with h | h
    ·exact .inl h
    ·exact .inr (List.mem_cons_of_mem _ h)
theorem kSet_length {V : Type} {k : Tx} {v : V} : ∀ {M : List (Tx × V)}, (kSet k v M).length ≤ M.length + 1
 | [] => Nat.le_refl _
 | e :: M => by
  unfold kSet
  cases decide (e.1 = k) with
  | true => exact Nat.le_succ _
  | false => exact Nat.succ_le_succ kSet_length
theorem kGet_memW {V : Type} {k : Tx} {v : V} : ∀ {M : List (Tx × V)}, kGet k M = some v → (k, v) ∈ M
 | [], h => by cases h
 | e :: M, h => by
  unfold kGet at h
  cases hd : decide (e.1 = k) with
  | true =>
   rw [hd] at h
   cases h
   rw [← of_decide_eq_true hd]
   exact List.mem_cons_self
  | false =>
   rw [hd] at h
   exact List.mem_cons_of_mem _ (kGet_memW h)
structure WantOK (d : Desk) (pre : List Ent) (M : List (Tx × Tx)) : Prop where
 ok : ∀ x ∈ M, d.find x.1 = (x.2, 0)
 has : ∀ e ∈ pre, (kGet e.word M).isSome = true ∧ (e.form ≠ [] → (kGet e.form M).isSome = true)
 len : M.length ≤ 2 * pre.length
theorem WantOK.nil {d : Desk} : WantOK d [] [] := ⟨fun x h => (by cases h), fun x h => (by cases h), Nat.le_refl _⟩
theorem isSome_set {V : Type} {k y : Tx} {v : V} {M : List (Tx × V)} (h : (kGet y M).isSome = true) : (kGet y (kSet k v M)).isSome = true := by
 rw [kGet_setW]
 split
 ·rfl
 ·exact h
theorem WantOK.word {d : Desk} {pre : List Ent} {M : List (Tx × Tx)} {e : Ent} (h : WantOK d pre M) (hD : DeskOK d) (he : e ∈ d.ents) (hf : e.form = []) : WantOK d (pre ++ [e]) (kSet e.word e.word M) := by
 refine ⟨fun x hx => ?_, fun x hx => ?_, ?_⟩
 ·rcases kSet_mem hx with rfl | hx
  ·exact find_word hD he
  ·exact h.ok x hx
 ·rcases List.mem_append.1 hx with hx | hx
  ·exact ⟨isSome_set (h.has x hx).1, fun hne => isSome_set ((h.has x hx).2 hne)⟩
  ·rw [List.mem_singleton.1 hx]
   exact ⟨by rw [kGet_setW, if_pos rfl]; rfl, fun hne => absurd hf hne⟩
 ·have := kSet_length (k := e.word) (v := e.word) (M := M)
  have := h.len
  simp
  omega
theorem WantOK.form {d : Desk} {pre : List Ent} {M : List (Tx × Tx)} {e : Ent} (h : WantOK d pre M) (hD : DeskOK d) (he : e ∈ d.ents) (hf : e.form ≠ []) : WantOK d (pre ++ [e]) (kSet e.form e.word (kSet e.word e.word M)) := by
 refine ⟨fun x hx => ?_, fun x hx => ?_, ?_⟩
 ·rcases kSet_mem hx with rfl | hx
  ·exact find_form hD he hf
  ·rcases kSet_mem hx with rfl | hx
   ·exact find_word hD he
   ·exact h.ok x hx
 ·rcases List.mem_append.1 hx with hx | hx
  ·exact ⟨isSome_set (isSome_set (h.has x hx).1), fun hne => isSome_set (isSome_set ((h.has x hx).2 hne))⟩
  ·rw [List.mem_singleton.1 hx]
   exact ⟨isSome_set (by rw [kGet_setW, if_pos rfl]; rfl), fun _ => by rw [kGet_setW, if_pos rfl]; rfl⟩
 ·have := kSet_length (k := e.word) (v := e.word) (M := M)
  have := kSet_length (k := e.form) (v := e.word) (M := kSet e.word e.word M)
  have := h.len
  simp
  omega
theorem WantOK.some {d : Desk} {pre : List Ent} {M : List (Tx × Tx)} {k v : Tx} (h : WantOK d pre M) (hk : kGet k M = some v) : d.find k = (v, 0) := h.ok _ (kGet_memW hk)
theorem WantOK.none {d : Desk} {pre : List Ent} {M : List (Tx × Tx)} {k : Tx} (h : WantOK d pre M) (hall : ∀ e ∈ d.ents, e ∈ pre) (hk : kGet k M = none) : d.find k = ([], 2) ∧ d.wayOf k = ([], 2) := by
 have hg : getE k d.ents = .none := by
  cases hq : getE k d.ents with
  | none => rfl
  | some y =>
   obtain ⟨h1, h2⟩ := getE_in hq
   have := (h.has y (hall y h1)).1
   rw [h2, hk] at this
   cases this
 refine ⟨find_no hg ?_, by unfold Desk.wayOf; rw [hg]⟩
 rw [List.any_eq_false]
 intro x hx hf
 unfold isF at hf
 simp only [Bool.and_eq_true, Bool.not_eq_true', decide_eq_true_eq] at hf
 obtain ⟨h1, h2⟩ := hf
 have := (h.has x (hall x hx)).2 (fun e => by rw [← h2, e] at h1; cases h1)
 rw [h2, hk] at this
 cases this
def partS : Tx → Tx → Tx
 | [], f => f
 | x :: w, [] => partS w []
 | x :: w, c :: p => partS w (if x = c then p else c :: p)
theorem partS_nil : ∀ w : Tx, partS w [] = []
 | [] => rfl
 | x :: w => partS_nil w
theorem partS_left : ∀ (w f : Tx), (partS w f).isEmpty = leftC w f
 | [], [] => rfl
 | [], c :: p => rfl
 | x :: w, [] => by rw [partS_nil]; rfl
 | x :: w, c :: p => by
  unfold partS leftC
  by_cases h : x = c
  ·rw [if_pos h, decide_eq_true h]
   exact partS_left w p
  ·rw [if_neg h, decide_eq_false h]
   exact partS_left w (c :: p)
theorem own_eq {d : Desk} {x e : Ent} (hD : DeskOK d) (he : e ∈ d.ents) (hx : x ∈ d.ents) (hf : e.form ≠ []) : leftC x.word e.form = decide (x.word = e.word) := by
 obtain ⟨h1, h2⟩ := hD.own e he hf
 by_cases h : x.word = e.word
 ·rw [h, h1, decide_eq_true rfl]
 ·rw [decide_eq_false h]
  cases hq : leftC x.word e.form with
  | false => rfl
  | true => exact absurd (h2 x hx hq) h
theorem entries_perm (d : Desk) : d.entries.Perm d.ents := List.mergeSort_perm _ _
theorem entries_lt {d : Desk} (hD : DeskOK d) {i : Nat} {a b : Ent} (ha : d.entries[i]? = some a) (hb : d.entries[i + 1]? = some b) : ¬ b.word ≤ a.word := by
 have hs : d.entries.Pairwise fun x y => leE x y = true := List.pairwise_mergeSort (fun x y z => by
  unfold leE
  simp only [decide_eq_true_eq]
  exact List.le_trans) (fun x y => by
  unfold leE
  simp only [Bool.or_eq_true, decide_eq_true_eq]
  exact List.le_total x.word y.word) d.ents
 have hn : (d.entries.map (·.word)).Nodup := ((entries_perm d).map _).nodup_iff.2 hD.keys
 obtain ⟨h1, h2⟩ := List.getElem?_eq_some_iff.1 ha
 obtain ⟨h3, h4⟩ := List.getElem?_eq_some_iff.1 hb
 have h5 : leE a b = true := by
  have := List.pairwise_iff_getElem.1 hs i (i + 1) h1 h3 (by omega)
  rw [h2, h4] at this
  exact this
 have h6 : a.word ≠ b.word := by
  have := List.pairwise_iff_getElem.1 hn i (i + 1) (by simpa using h1) (by simpa using h3) (by omega)
  simp only [List.getElem_map, h2, h4] at this
  exact this
 intro h7
 unfold leE at h5
 exact h6 (List.le_antisymm (of_decide_eq_true h5) h7)
end Go.Proofs.YtjeadhfponlnnaaGreatDoor

/-
  The fewest settings, how many plans have them, and the first of these plans: the search with a table, and the list of all plans.
  Conditions: none; definitions and lemmas.
-/
import Derived.Test.YtcdhajbhpnbdkaaDoorTimes
set_option linter.unusedSimpArgs false
set_option linter.unusedVariables false
namespace Go.Proofs.YtcdhajbhpnbdkaaDoor
open Go.Abs Go.Pur
set_option maxRecDepth 100000
def bjoin (out x : Nat × Nat) : Nat × Nat := if out = (0, 0) ∨ x.1 < out.1 then x else if x.1 = out.1 then (out.1, out.2 + x.2) else out
def bst (room : Int) : List Nat → Nat → Nat × Nat
  | [], _ => (0, 1)
  | p :: r, s => if s.testBit p then bst room r s else if (cnt s : Int) < room then ((bst room r (setB s p)).1 + 1, (bst room r (setB s p)).2)
    else (bitsN s).foldl (fun out g => bjoin out ((bst room r (setB (clrB s g) p)).1 + 1, (bst room r (setB (clrB s g) p)).2)) (0, 0)
def sumAt (m : Nat) : List (Nat × Nat) → Nat
  | [] => 0
  | x :: l => (if x.1 = m then x.2 else 0) + sumAt m l
theorem bjoin_fold : ∀ (l : List (Nat × Nat)) (out : Nat × Nat), out ≠ (0, 0) → 1 ≤ out.1 → (∀ x ∈ l, 1 ≤ x.1) →
    (l.foldl bjoin out).1 = minL (out.1 :: l.map (·.1)) ∧ (l.foldl bjoin out).2 = sumAt (minL (out.1 :: l.map (·.1))) (out :: l)
  | [], out, h0, h1, hl => by simp [minL, sumAt]
  | x :: l, out, h0, h1, hl => by
    have hx := hl x (by simp)
    have hl' : ∀ y ∈ l, 1 ≤ y.1 := fun y hy => hl y (by simp [hy])
    have hmin : ∀ a b, minL (a :: b :: l.map (·.1)) = minL ((min a b) :: l.map (·.1)) := fun a b => by
      cases l with
      | nil => simp [minL]
      | cons y l => simp only [minL, List.map_cons]; omega
    have hle : ∀ a, minL (a :: l.map (·.1)) ≤ a := fun a => minL_le (by simp)
    simp only [List.foldl_cons, List.map_cons]
    rw [hmin]
    by_cases c1 : x.1 < out.1
    · have e : bjoin out x = x := by unfold bjoin; rw [if_pos (Or.inr c1)]
      rw [e]
      obtain ⟨i1, i2⟩ := bjoin_fold l x (fun e => by rw [e] at hx; simp at hx) hx hl'
      rw [Nat.min_eq_right (by omega)]
      refine ⟨i1, ?_⟩
      rw [i2]
      simp only [sumAt]
      have := hle x.1
      rw [if_neg (show ¬ out.1 = _ by omega), Nat.zero_add]
    · by_cases c2 : x.1 = out.1
      · have e : bjoin out x = (out.1, out.2 + x.2) := by unfold bjoin; rw [if_neg (by simp [h0, c1]), if_pos c2]
        rw [e]
        obtain ⟨i1, i2⟩ := bjoin_fold l (out.1, out.2 + x.2) (fun e => by simp at e; omega) h1 hl'
        rw [Nat.min_eq_left (by omega)]
        refine ⟨i1, ?_⟩
        rw [i2]
        simp only [sumAt]
        rw [c2]
        split <;> omega
      · have e : bjoin out x = out := by unfold bjoin; rw [if_neg (by simp [h0, c1]), if_neg c2]
        rw [e]
        obtain ⟨i1, i2⟩ := bjoin_fold l out h0 h1 hl'
        rw [Nat.min_eq_left (by omega)]
        refine ⟨i1, ?_⟩
        rw [i2]
        simp only [sumAt]
        have := hle out.1
        rw [if_neg (show ¬ x.1 = _ by omega), Nat.zero_add]
theorem bjoin_all {l : List (Nat × Nat)} (hne : l ≠ []) (hl : ∀ x ∈ l, 1 ≤ x.1) : l.foldl bjoin (0, 0) = (minL (l.map (·.1)), sumAt (minL (l.map (·.1))) l) := by
  obtain ⟨x, r, rfl⟩ := List.exists_cons_of_ne_nil hne
  have hx := hl x (by simp)
  have e : bjoin (0, 0) x = x := by unfold bjoin; rw [if_pos (Or.inl rfl)]
  simp only [List.foldl_cons, e]
  obtain ⟨a, b⟩ := bjoin_fold r x (fun e => by rw [e] at hx; simp at hx) hx (fun y hy => hl y (by simp [hy]))
  exact Prod.ext a b
theorem minL_map_add : ∀ {l : List Nat}, l ≠ [] → minL (l.map (· + 1)) = minL l + 1
  | [a], _ => rfl
  | a :: b :: l, _ => by
    have := minL_map_add (l := b :: l) (by simp)
    simp only [List.map_cons] at this ⊢
    simp only [minL]
    rw [this]
    omega
section
variable {room : Int}
theorem bits_ne {s : Nat} (h1 : 1 ≤ room) (h : ¬ (cnt s : Int) < room) : bitsN s ≠ [] := fun e => by
  have := bitsN_len (s := s)
  rw [e] at this; simp at this; omega
theorem bst_full {p s : Nat} {r : List Nat} : (bitsN s).foldl (fun out g => bjoin out ((bst room r (setB (clrB s g) p)).1 + 1, (bst room r (setB (clrB s g) p)).2)) (0, 0) =
    ((bitsN s).map fun g => ((bst room r (setB (clrB s g) p)).1 + 1, (bst room r (setB (clrB s g) p)).2)).foldl bjoin (0, 0) := by
  rw [List.foldl_map]
theorem bst_need (h1 : 1 ≤ room) : ∀ (l : List Nat) (s : Nat), (bst room l s).1 = need room l s
  | [], s => rfl
  | p :: r, s => by
    simp only [bst, need]
    split
    · exact bst_need h1 r s
    · split
      · rw [← bst_need h1 r]
      · rename_i h2
        have hne := bits_ne h1 h2
        rw [bst_full, bjoin_all (by simpa using hne) (by simp)]
        simp only [List.map_map]
        have : (bitsN s).map ((fun x : Nat × Nat => x.1) ∘ fun g => ((bst room r (setB (clrB s g) p)).1 + 1, (bst room r (setB (clrB s g) p)).2)) = ((bitsN s).map fun g => need room r (setB (clrB s g) p)).map (· + 1) := by
          rw [List.map_map]
          refine List.map_congr_left fun g _ => ?_
          simp only [Function.comp]
          rw [bst_need h1 r]
        rw [this, minL_map_add (by simpa using hne)]
def ways (room : Int) (l : List Nat) (s : Nat) : Nat := (bst room l s).2
theorem sumAt_map {α : Type} {f g : α → Nat} {m : Nat} : ∀ {l : List α}, sumAt m (l.map fun x => (f x, g x)) = (l.map fun x => if f x = m then g x else 0).sum
  | [] => rfl
  | x :: l => by simp only [List.map_cons, sumAt, List.sum_cons]; rw [sumAt_map]
theorem ways_full (h1 : 1 ≤ room) {p s : Nat} {r : List Nat} (hb : s.testBit p = false) (h2 : ¬ (cnt s : Int) < room) :
    ways room (p :: r) s = ((bitsN s).map fun g => if need room r (setB (clrB s g) p) + 1 = need room (p :: r) s then ways room r (setB (clrB s g) p) else 0).sum := by
  have hne := bits_ne h1 h2
  have e := bst_need h1 (p :: r) s
  unfold ways
  simp only [bst] at e ⊢
  rw [if_neg (by simp [hb]), if_neg h2, bst_full, bjoin_all (by simpa using hne) (by simp)] at e ⊢
  simp only at e ⊢
  rw [e, sumAt_map]
  simp only [bst_need h1]
def plansN (room : Int) : List Nat → Nat → Int → List (List Int)
  | [], _, left => if left < 0 then [] else [[]]
  | p :: r, s, left => if left < 0 then [] else if s.testBit p then (plansN room r s left).map (-1 :: ·) else if (cnt s : Int) < room then (plansN room r (setB s p) (left - 1)).map (-1 :: ·)
    else (bitsN s).flatMap fun g => (plansN room r (setB (clrB s g) p) (left - 1)).map ((g : Int) :: ·)
theorem plans_few : ∀ (l : List Nat) (s : Nat) (left : Int), left < need room l s → plansN room l s left = []
  | [], s, left, h => by simp [need] at h; simp [plansN, h]
  | p :: r, s, left, h => by
    simp only [need] at h
    simp only [plansN]
    split
    · rfl
    · split
      · rename_i h2; rw [if_pos h2] at h
        rw [plans_few r s left h]; rfl
      · rename_i h2; rw [if_neg h2] at h
        split
        · rename_i h3; rw [if_pos h3] at h
          rw [plans_few r _ _ (by omega)]; rfl
        · rename_i h3; rw [if_neg h3] at h
          rw [List.flatMap_eq_nil_iff]
          intro g hg
          have := minL_le (l := (bitsN s).map fun g => need room r (setB (clrB s g) p)) (List.mem_map_of_mem hg)
          rw [plans_few r _ _ (by omega)]; rfl
theorem plans_len (h1 : 1 ≤ room) : ∀ (l : List Nat) (s : Nat), (plansN room l s (need room l s)).length = ways room l s
  | [], s => by simp [plansN, need, ways, bst]
  | p :: r, s => by
    by_cases hb : s.testBit p = true
    · simp only [plansN, need, ways, bst, if_pos hb]
      rw [if_neg (by omega), List.length_map]
      exact plans_len h1 r s
    · by_cases h2 : (cnt s : Int) < room
      · simp only [plansN, need, ways, bst, if_neg hb, if_pos h2]
        rw [if_neg (by omega), List.length_map, show ((need room r (setB s p) + 1 : Nat) : Int) - 1 = need room r (setB s p) by omega]
        exact plans_len h1 r _
      · rw [ways_full h1 (by simpa using hb) h2]
        have hle : ∀ g ∈ bitsN s, need room (p :: r) s ≤ need room r (setB (clrB s g) p) + 1 := fun g hg => by
          simp only [need, if_neg hb, if_neg h2]
          have := minL_le (l := (bitsN s).map fun g => need room r (setB (clrB s g) p)) (List.mem_map_of_mem hg)
          omega
        have h0 : 1 ≤ need room (p :: r) s := by simp only [need, if_neg hb, if_neg h2]; omega
        generalize need room (p :: r) s = m at hle h0
        simp only [plansN, if_neg hb, if_neg h2]
        rw [if_neg (by omega), List.length_flatMap]
        congr 1
        refine List.map_congr_left fun g hg => ?_
        have := hle g hg
        rw [List.length_map]
        split
        · rename_i e
          rw [show (m : Int) - 1 = need room r (setB (clrB s g) p) by omega]
          exact plans_len h1 r _
        · rw [plans_few r _ _ (by omega)]; rfl
def firstN (room : Int) : List Nat → Nat → List Int
  | [], _ => []
  | p :: r, s => if s.testBit p then -1 :: firstN room r s else if (cnt s : Int) < room then -1 :: firstN room r (setB s p)
    else match (bitsN s).find? fun g => decide (need room r (setB (clrB s g) p) + 1 = need room (p :: r) s) with
      | some g => (g : Int) :: firstN room r (setB (clrB s g) p)
      | none => []
theorem head_flatMap {α β : Type} {f : α → List β} {q : α → Bool} {b : α → β} : ∀ {l : List α}, (∀ x ∈ l, q x = false → f x = []) → (∀ x ∈ l, q x = true → (f x).head? = some (b x)) → (l.flatMap f).head? = (l.find? q).map b
  | [], _, _ => rfl
  | x :: l, h1, h2 => by
    rw [List.flatMap_cons]
    cases hx : q x with
    | true =>
      rw [List.find?_cons_of_pos hx]
      have := h2 x (by simp) hx
      rw [List.head?_append, this]
      rfl
    | false =>
      rw [List.find?_cons_of_neg (by simp [hx]), h1 x (by simp) hx, List.nil_append]
      exact head_flatMap (fun y hy => h1 y (by simp [hy])) (fun y hy => h2 y (by simp [hy]))
theorem plans_head (h1 : 1 ≤ room) : ∀ (l : List Nat) (s : Nat), (plansN room l s (need room l s)).head? = some (firstN room l s)
  | [], s => by simp [plansN, need, firstN]
  | p :: r, s => by
    by_cases hb : s.testBit p = true
    · simp only [plansN, need, firstN, if_pos hb]
      rw [if_neg (by omega), List.head?_map, plans_head h1 r s]
      rfl
    · by_cases h2 : (cnt s : Int) < room
      · simp only [plansN, need, firstN, if_neg hb, if_pos h2]
        rw [if_neg (by omega), List.head?_map, show ((need room r (setB s p) + 1 : Nat) : Int) - 1 = need room r (setB s p) by omega, plans_head h1 r _]
        rfl
      · have hle : ∀ g ∈ bitsN s, need room (p :: r) s ≤ need room r (setB (clrB s g) p) + 1 := fun g hg => by
          simp only [need, if_neg hb, if_neg h2]
          have := minL_le (l := (bitsN s).map fun g => need room r (setB (clrB s g) p)) (List.mem_map_of_mem hg)
          omega
        have hex : ∃ g ∈ bitsN s, need room r (setB (clrB s g) p) + 1 = need room (p :: r) s := by
          have := minL_mem (l := (bitsN s).map fun g => need room r (setB (clrB s g) p)) (by simpa using bits_ne h1 h2)
          obtain ⟨g, hg, e⟩ := List.mem_map.1 this
          refine ⟨g, hg, ?_⟩
          simp only [need, if_neg hb, if_neg h2]
          omega
        have h0 : 1 ≤ need room (p :: r) s := by simp only [need, if_neg hb, if_neg h2]; omega
        simp only [firstN, if_neg hb, if_neg h2]
        generalize need room (p :: r) s = m at hle h0 hex
        simp only [plansN, if_neg hb, if_neg h2]
        rw [if_neg (by omega)]
        rw [head_flatMap (q := fun g => decide (need room r (setB (clrB s g) p) + 1 = m)) (b := fun g => (g : Int) :: firstN room r (setB (clrB s g) p))]
        · obtain ⟨g, hg, e⟩ := hex
          cases hf : (bitsN s).find? fun g => decide (need room r (setB (clrB s g) p) + 1 = m) with
          | none =>
            rw [List.find?_eq_none] at hf
            exact absurd (by simpa using e) (hf g hg)
          | some g' => rfl
        · intro g hg hx
          have := hle g hg
          simp at hx
          rw [plans_few r _ _ (by omega)]; rfl
        · intro g hg hx
          simp at hx
          rw [show (m : Int) - 1 = need room r (setB (clrB s g) p) by omega, List.head?_map, plans_head h1 r _]
          rfl
end
theorem bjoin_le {M N : Nat} : ∀ (l : List (Nat × Nat)) (out : Nat × Nat) (A : Nat), out.1 ≤ N → out.2 ≤ A → (∀ x ∈ l, x.1 ≤ N ∧ x.2 ≤ M) → (l.foldl bjoin out).1 ≤ N ∧ (l.foldl bjoin out).2 ≤ A + l.length * M
  | [], out, A, h1, h2, _ => ⟨h1, by simpa using h2⟩
  | x :: l, out, A, h1, h2, hl => by
    obtain ⟨a, b⟩ := hl x (by simp)
    simp only [List.foldl_cons, List.length_cons]
    have e : (bjoin out x).1 ≤ N ∧ (bjoin out x).2 ≤ A + M := by
      unfold bjoin
      split
      · exact ⟨a, by omega⟩
      · split
        · exact ⟨h1, by simp; omega⟩
        · exact ⟨h1, by omega⟩
    obtain ⟨c, d⟩ := bjoin_le l (bjoin out x) (A + M) e.1 e.2 (fun y hy => hl y (by simp [hy]))
    refine ⟨c, Nat.le_trans d ?_⟩
    rw [Nat.add_mul]; omega
theorem bitsN_le {s : Nat} : (bitsN s).length ≤ 12 := by
  have := List.length_filter_le (fun i => s.testBit i) (List.range 12)
  simpa [bitsN] using this
theorem bst_le {room : Int} : ∀ (l : List Nat) (s : Nat), (bst room l s).1 ≤ l.length ∧ (bst room l s).2 ≤ 12 ^ l.length
  | [], s => by simp [bst]
  | p :: r, s => by
    have i0 := bst_le (room := room) r s
    have i1 := bst_le (room := room) r (setB s p)
    have hp : (12 : Nat) ^ (p :: r).length = 12 ^ r.length * 12 := by rw [List.length_cons, Nat.pow_succ]
    rw [hp, List.length_cons]
    simp only [bst]
    split
    · omega
    · split
      · simp only; omega
      · rw [bst_full]
        have := bjoin_le (M := 12 ^ r.length) (N := r.length + 1) ((bitsN s).map fun g => ((bst room r (setB (clrB s g) p)).1 + 1, (bst room r (setB (clrB s g) p)).2)) (0, 0) 0 (by simp) (by simp) (fun x hx => by
          obtain ⟨g, _, rfl⟩ := List.mem_map.1 hx
          have := bst_le (room := room) r (setB (clrB s g) p)
          exact ⟨by simp only; omega, this.2⟩)
        refine ⟨this.1, Nat.le_trans this.2 ?_⟩
        rw [List.length_map, Nat.zero_add, Nat.mul_comm]
        exact Nat.mul_le_mul_left _ bitsN_le
theorem ways_pos {room : Int} (h1 : 1 ≤ room) {l : List Nat} {s : Nat} : 1 ≤ (bst room l s).2 := by
  have h := plans_len h1 l s
  have h2 := plans_head h1 l s
  unfold ways at h
  rw [← h]
  cases e : plansN room l s (need room l s) with
  | nil => rw [e] at h2; cases h2
  | cons a b => simp
end Go.Proofs.YtcdhajbhpnbdkaaDoor

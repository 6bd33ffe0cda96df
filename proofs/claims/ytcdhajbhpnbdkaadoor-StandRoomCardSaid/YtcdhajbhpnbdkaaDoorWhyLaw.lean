/-
  The reference's why: the first of the shortest lists of times with the greatest bound, and the fewest settings.
  Conditions: none; lemmas.
-/
import Derived.Test.YtcdhajbhpnbdkaaDoorEnum
import Derived.Test.YtcdhajbhpnbdkaaDoorBoundsMax
set_option linter.unusedSimpArgs false
set_option linter.unusedVariables false
namespace Go.Proofs.YtcdhajbhpnbdkaaDoor
open Go.Abs Go.Pur
set_option maxRecDepth 100000
theorem okM_at {n m : Nat} (hn : n ≤ 12) (hm : m ≤ n) : ∃ c, f101S fuel fuel n m .nz [] = some (c, (cmb n m 0).map fun l => (Ck.nz, l)) ∧ (cmb n m 0).length ≤ 5000 := by
 have h : okM n m = true := by
  by_cases e : n = 12
  ·subst e
   have := okM_12
   rw [List.all_eq_true] at this
   exact this m (List.mem_range.2 (by omega))
  ·have := okM_11
   rw [List.all_eq_true] at this
   have := this n (List.mem_range.2 (by omega))
   rw [List.all_eq_true] at this
   exact this m (List.mem_range.2 (by omega))
 unfold okM at h
 split at h
 ·rename_i c l e
  rw [Bool.and_eq_true] at h
  have := eqL_ok h.1
  subst this
  refine ⟨c, e, ?_⟩
  have := Nat.le_of_ble_eq_true h.2
  simpa using this
 ·cases h
theorem incF_mono {n f : Nat} : ∀ {l : List Int}, incF n (f + 1) l → incF n f l
 | [], _ => trivial
 | a :: l, ⟨t, e, h1, h2, h3⟩ => ⟨t, e, by omega, h2, h3⟩
theorem incF_ge {n : Nat} : ∀ {l : List Int} {f : Nat}, incF n f l → ∀ x ∈ l, (f : Int) ≤ x ∧ x < n
 | [], _, _, x, h => by cases h
 | a :: l, f, ⟨t, e, h1, h2, h3⟩, x, h => by
  rcases List.mem_cons.1 h with rfl | h
  ·omega
  ·have := incF_ge h3 x h; omega
theorem incF_ext {n : Nat} : ∀ {l m : List Int} {f : Nat}, incF n f l → incF n f m → (∀ x, x ∈ l ↔ x ∈ m) → l = m
 | [], [], _, _, _, _ => rfl
 | [], b :: m, _, _, _, h => by have := (h b).2 (by simp); cases this
 | a :: l, [], _, _, _, h => by have := (h a).1 (by simp); cases this
 | a :: l, b :: m, f, ⟨t, ea, a1, a2, a3⟩, ⟨u, eb, b1, b2, b3⟩, h => by
  have x1 := (h a).1 (by simp)
  have x2 := (h b).2 (by simp)
  have hab : a = b := by
   rcases List.mem_cons.1 x1 with e | x1
   ·exact e
   ·rcases List.mem_cons.1 x2 with e | x2
    ·exact e.symm
    ·have := incF_ge b3 a x1; have := incF_ge a3 b x2; omega
  subst hab
  have htu : t = u := by omega
  subst htu
  rw [incF_ext a3 b3 (fun x => ?_)]
  have hx := h x
  rw [List.mem_cons, List.mem_cons] at hx
  constructor
  ·intro hl
   have := incF_ge a3 x hl
   rcases hx.1 (Or.inr hl) with e | hm
   ·omega
   ·exact hm
  ·intro hm
   have := incF_ge b3 x hm
   rcases hx.2 (Or.inr hm) with e | hl
   ·omega
   ·exact hl
theorem incF_filter {n : Nat} {q : Nat → Bool} : ∀ (k f : Nat), (∀ t, q t = true → t < n) → incF n f (((List.range' f k).filter q).map Int.ofNat)
 | 0, f, _ => by simp [incF]
 | k + 1, f, h => by
  rw [List.range'_succ]
  have ih := incF_filter k (f + 1) h
  cases hq : q f with
  | true =>
   rw [List.filter_cons_of_pos hq, List.map_cons]
   exact ⟨f, rfl, Nat.le_refl _, h f hq, ih⟩
  | false =>
   rw [List.filter_cons_of_neg (by simp [hq])]
   exact incF_mono ih
theorem bitsL_inc {n s : Nat} (hs : s < 2 ^ n) : incF n 0 (bitsL s) := by
 unfold bitsL bitsN
 rw [List.range_eq_range']
 refine incF_filter 12 0 fun t ht => ?_
 rcases Nat.lt_or_ge t n with h | h
 ·exact h
 ·have h2 : 2 ^ n ≤ 2 ^ t := Nat.pow_le_pow_right (by decide) h
  rw [Nat.testBit_lt_two_pow (by omega)] at ht; cases ht
theorem inc_bits {n : Nat} (hn : n ≤ 12) {l : List Int} (h : incF n 0 l) : ∃ s, s < 2 ^ n ∧ l = bitsL s := by
 obtain ⟨s, h1, h2⟩ := bits_of ((List.range n).map fun (t : Nat) => decide (((t : Nat) : Int) ∈ l))
 rw [List.length_map, List.length_range] at h1 h2
 refine ⟨s, h1, incF_ext h (bitsL_inc h1) fun x => ?_⟩
 have key : ∀ t : Nat, t < n → (s.testBit t = true ↔ (t : Int) ∈ l) := fun t ht => by
  rw [h2 t ht]
  simp [List.getD_eq_getElem?_getD, List.getElem?_map, List.getElem?_range ht]
 rw [bitsL_mem]
 constructor
 ·intro hx
  obtain ⟨h3, h4⟩ := incF_ge h x hx
  obtain ⟨t, rfl⟩ := Int.eq_ofNat_of_zero_le (by simpa using h3)
  exact ⟨t, rfl, by omega, (key t (by omega)).2 hx⟩
 ·rintro ⟨t, rfl, h3, h4⟩
  have ht : t < n := by
   rcases Nat.lt_or_ge t n with h | h
   ·exact h
   ·have h5 : 2 ^ n ≤ 2 ^ t := Nat.pow_le_pow_right (by decide) h
    rw [Nat.testBit_lt_two_pow (by omega)] at h4; cases h4
  exact (key t ht).1 h4
def bestF (f : List Int → Int) (b : List Int × Int) (x : List Int) : List Int × Int := if b.2 < f x then (x, f x) else b
section
variable {room : Int} {pages : List Int}
theorem whyIn_eq (hr1 : 1 ≤ room) (hr2 : room ≤ 5) (hn : pages.length ≤ 12) : ∀ (L : List (List Int)) (b : List Int × Int), (∀ l ∈ L, l.length ≤ 12) →
  whyIn fuel room pages (L.map fun l => (Ck.nz, l)) ((.nz, b.1), b.2) = some ((.nz, (L.foldl (bestF (bndT room pages)) b).1), (L.foldl (bestF (bndT room pages)) b).2)
 | [], b, _ => rfl
 | x :: L, b, h => by
  have hx := h x (by simp)
  simp only [List.map_cons, whyIn]
  rw [f89_eq hr1 hr2 hn (by omega) (by rw [fuel_eq]; decide)]
  simp only [Option.bind_some, List.foldl_cons]
  have := whyIn_eq hr1 hr2 hn L (bestF (bndT room pages) b x) (fun l hl => h l (by simp [hl]))
  rw [← this]
  unfold bestF
  by_cases c : b.2 < bndT room pages x
  ·rw [if_pos c, if_pos c]
  ·rw [if_neg c, if_neg c]
theorem whyOut_eq (hr1 : 1 ≤ room) (hr2 : room ≤ 5) (hn : pages.length ≤ 12) : ∀ (k j : Nat) (b : List Int × Int), j + k = pages.length + 1 →
  whyOut fuel room pages k j ((.nz, b.1), b.2) = some ((.nz, ((cmbA pages.length k j).foldl (bestF (bndT room pages)) b).1), ((cmbA pages.length k j).foldl (bestF (bndT room pages)) b).2)
 | 0, j, b, _ => rfl
 | k + 1, j, b, h => by
  obtain ⟨c, e, hl⟩ := okM_at (n := pages.length) (m := j) hn (by omega)
  simp only [whyOut]
  rw [e]
  simp only [Option.bind_some, List.length_map]
  have hg : gN (cmb pages.length j 0).length = some () := by
   unfold gN
   rw [show Nat.ble (cmb pages.length j 0).length 1000000 = true from ble_true (by omega)]
  rw [hg]
  simp only [Option.bind_some]
  rw [whyIn_eq hr1 hr2 hn _ b (fun l hl => by have := (cmb_mem.1 hl).1; omega)]
  simp only [Option.bind_some]
  rw [whyOut_eq hr1 hr2 hn k (j + 1) _ (by omega)]
  have : cmbA pages.length (k + 1) j = cmb pages.length j 0 ++ cmbA pages.length k (j + 1) := by
   unfold cmbA
   rw [List.range'_succ, List.flatMap_cons]
  rw [this, List.foldl_append]
theorem bestF_all {f : List Int → Int} {M : Int} : ∀ (L : List (List Int)) (b : List Int × Int), (∀ l ∈ L, f l ≤ M) → b.2 < M → (∃ l ∈ L, f l = M) → ∃ l, L.find? (fun l => decide (f l = M)) = some l ∧ L.foldl (bestF f) b = (l, M)
 | [], b, _, _, ⟨l, h, _⟩ => by cases h
 | x :: L, b, h, hb, hex => by
  have hx := h x (by simp)
  have hL := fun l hl => h l (List.mem_cons_of_mem x hl)
  rw [List.foldl_cons]
  by_cases e : f x = M
  ·have e1 : bestF f b x = (x, M) := by unfold bestF; rw [if_pos (by omega), e]
   rw [e1, List.find?_cons_of_pos (by simpa using e)]
   refine ⟨x, rfl, ?_⟩
   have : ∀ (L : List (List Int)), (∀ l ∈ L, f l ≤ M) → L.foldl (bestF f) (x, M) = (x, M) := by
    intro L hL
    induction L with
    | nil => rfl
    | cons y L ih =>
     rw [List.foldl_cons]
     have : bestF f (x, M) y = (x, M) := by unfold bestF; rw [if_neg (by have := hL y (by simp); simp only; omega)]
     rw [this]
     exact ih (fun l hl => hL l (by simp [hl]))
   exact this L hL
  ·rw [List.find?_cons_of_neg (by simpa using e)]
   refine bestF_all L _ hL ?_ ?_
   ·unfold bestF; split
    ·simp only; omega
    ·exact hb
   ·obtain ⟨l, hl, he⟩ := hex
    rcases List.mem_cons.1 hl with rfl | hl
    ·exact absurd he e
    ·exact ⟨l, hl, he⟩
def whyL (room : Int) (pages : List Int) : List Int := ((cmbA pages.length (pages.length + 1) 0).find? fun l => decide (bndT room pages l = (need room (rem6 pages 0) 0 : Nat))).getD []
theorem all_le (hr1 : 1 ≤ room) (hpg : ∀ q ∈ pages, 0 ≤ q ∧ q ≤ 5) (hn : pages.length ≤ 12) {l : List Int} (h : incF pages.length 0 l) : bndT room pages l ≤ need room (rem6 pages 0) 0 := by
 obtain ⟨s, h1, rfl⟩ := inc_bits hn h
 exact bndT_le hr1 hpg hn h1
theorem f80_eq (hr1 : 1 ≤ room) (hr2 : room ≤ 5) (hpg : ∀ q ∈ pages, 0 ≤ q ∧ q ≤ 5) (hn : pages.length ≤ 12) : (cmbA pages.length (pages.length + 1) 0).find? (fun l => decide (bndT room pages l = (need room (rem6 pages 0) 0 : Nat))) = some (whyL room pages) ∧
  f80S fuel room pages = some ((Ck.nz, whyL room pages), ((need room (rem6 pages 0) 0 : Nat) : Int)) := by
 obtain ⟨s, h1, h2⟩ := bndT_max hr1 hpg hn
 have hmem : bitsL s ∈ cmbA pages.length (pages.length + 1) 0 := by
  rw [cmbA_mem]
  have hi := bitsL_inc h1
  refine ⟨by omega, ?_, hi⟩
  rcases incF_len hi with h | h
  ·rw [h]; simp
  ·omega
 obtain ⟨l, e1, e2⟩ := @bestF_all (bndT room pages) (need room (rem6 pages 0) 0 : Nat) (cmbA pages.length (pages.length + 1) 0) ([], -1) (fun l hl => all_le hr1 hpg hn (cmbA_mem.1 hl).2.2) (by simp only; omega) ⟨_, hmem, h2⟩
 have e3 : whyL room pages = l := by unfold whyL; rw [e1]; rfl
 rw [e3]
 refine ⟨e1, ?_⟩
 have hsh : short pages = true := by unfold short; exact ble_true (by omega)
 unfold f80S
 rw [hsh]
 have := @whyOut_eq room pages hr1 hr2 hn (pages.length + 1) 0 ([], -1) (by omega)
 simp only at this ⊢
 rw [this, e2]
end
end Go.Proofs.YtcdhajbhpnbdkaaDoor

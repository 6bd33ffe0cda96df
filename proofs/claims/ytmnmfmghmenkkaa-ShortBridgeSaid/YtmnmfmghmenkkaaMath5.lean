/-
  Arches, and the first of the shortest words that are missing: the mathematics.
  Conditions: none; definitions and lemmas.
-/
import Derived.Test.YtmnmfmghmenkkaaLeft27
set_option linter.unusedSimpArgs false
set_option linter.unusedVariables false
namespace Go.Proofs.Ytmnmfmghmenkkaa
theorem nodup_le {α : Type} [DecidableEq α] : ∀ {l m : List α}, l.Nodup → (∀ x ∈ l, x ∈ m) → l.length ≤ m.length
 | [], m, _, _ => Nat.zero_le _
 | x :: l, m, hn, hs => by
  have h1 := List.nodup_cons.1 hn
  have hx := hs x List.mem_cons_self
  have h2 : ∀ y ∈ l, y ∈ m.erase x := fun y hy => (List.mem_erase_of_ne (fun e => h1.1 (by rw [← e]; exact hy))).2 (hs y (List.mem_cons_of_mem _ hy))
  have h3 := nodup_le h1.2 h2
  rw [List.length_erase_of_mem hx] at h3
  have h4 : 0 < m.length := List.length_pos_of_mem hx
  simp only [List.length_cons]
  omega
def lets (k : Nat) : List UInt8 := (List.range k).map fun j => UInt8.ofNat (97 + j)
theorem lets_len {k : Nat} : (lets k).length = k := by simp [lets]
theorem lets_mem {k : Nat} (hk : k ≤ 6) {c : UInt8} : c ∈ lets k ↔ 97 ≤ c.toNat ∧ c.toNat < 97 + k := by
 unfold lets
 rw [List.mem_map]
 constructor
 ·rintro ⟨j, hj, rfl⟩
  have := List.mem_range.1 hj
  have e : (UInt8.ofNat (97 + j)).toNat = 97 + j := by
   rw [UInt8.toNat_ofNat']; omega
  omega
 ·rintro ⟨h1, h2⟩
  refine ⟨c.toNat - 97, List.mem_range.2 (by omega), ?_⟩
  apply UInt8.toNat_inj.1
  rw [UInt8.toNat_ofNat']
  omega
theorem lets_nodup {k : Nat} (hk : k ≤ 6) : (lets k).Nodup := by
 unfold lets
 unfold List.Nodup
 rw [List.pairwise_map]
 refine List.Pairwise.imp_of_mem (fun {a b} ha hb hne e => hne ?_) List.nodup_range
 have h1 := List.mem_range.1 ha
 have h2 := List.mem_range.1 hb
 have := congrArg UInt8.toNat e
 rw [UInt8.toNat_ofNat', UInt8.toNat_ofNat'] at this
 omega
def fullM (k : Nat) (m : List UInt8) : Bool := (lets k).all fun c => decide (c ∈ m)
theorem fullM_iff {k : Nat} {m : List UInt8} : fullM k m = true ↔ ∀ c ∈ lets k, c ∈ m := by
 unfold fullM
 simp [List.all_eq_true]
theorem fullM_mono {k : Nat} {m m' : List UInt8} (h : ∀ x ∈ m, x ∈ m') (hf : fullM k m = true) : fullM k m' = true :=
 fullM_iff.2 fun c hc => h c (fullM_iff.1 hf c hc)
def arN (k : Nat) : List UInt8 → List UInt8 → Nat
 | _, [] => 0
 | m, c :: w => match fullM k (c :: m) with
  | true => 1 + arN k [] w
  | false => arN k (c :: m) w
theorem arN_both (k : Nat) : ∀ (w : List UInt8), (∀ m m', (∀ x ∈ m, x ∈ m') → arN k m w ≤ arN k m' w) ∧ ∀ m, arN k m w ≤ 1 + arN k [] w
 | [] => ⟨fun _ _ _ => Nat.le_refl _, fun _ => Nat.zero_le _⟩
 | c :: w => by
  obtain ⟨i1, i2⟩ := arN_both k w
  have hmono : ∀ m m', (∀ x ∈ m, x ∈ m') → arN k m (c :: w) ≤ arN k m' (c :: w) := fun m m' h => by
   have hs : ∀ x ∈ c :: m, x ∈ c :: m' := fun x hx => by
    rcases List.mem_cons.1 hx with rfl | hx
    ·exact List.mem_cons_self
    ·exact List.mem_cons_of_mem _ (h x hx)
   unfold arN
   cases h1 : fullM k (c :: m) with
   | true => rw [fullM_mono hs h1]; exact Nat.le_refl _
   | false =>
    cases h2 : fullM k (c :: m') with
    | true => exact i2 _
    | false => exact i1 _ _ hs
  refine ⟨hmono, fun m => ?_⟩
  have h0 : arN k [] w ≤ arN k [] (c :: w) := by
   conv => rhs; unfold arN
   cases fullM k [c] with
   | true => simp only []; omega
   | false => exact i1 _ _ (fun x hx => by cases hx)
  have h1 : arN k m (c :: w) = 1 + arN k [] w ∨ (fullM k (c :: m) = false ∧ arN k m (c :: w) = arN k (c :: m) w) := by
   conv => lhs; lhs; unfold arN
   cases h : fullM k (c :: m) with
   | true => exact .inl rfl
   | false =>
    refine .inr ⟨rfl, ?_⟩
    conv => lhs; unfold arN
    rw [h]
  rcases h1 with h1 | ⟨_, h1⟩
  ·omega
  ·have := i2 (c :: m)
   omega
theorem arN_one {k : Nat} {w m : List UInt8} : arN k m w ≤ 1 + arN k [] w := (arN_both k w).2 m
def bhd : List UInt8 → UInt8 → Option (List UInt8)
 | [], _ => none
 | x :: w, c => if x = c then some w else bhd w c
theorem bhd_left {c : UInt8} {p : List UInt8} : ∀ {w : List UInt8}, leftW w (c :: p) = match bhd w c with
  | some w' => leftW w' p
  | none => false
 | [] => by rw [leftW, bhd]
 | x :: w => by
  rw [leftW, bhd]
  by_cases h : x = c
  ·rw [if_pos h, if_pos h]
  ·rw [if_neg h, if_neg h]; exact bhd_left
theorem bhd_all {c : UInt8} {p : UInt8 → Prop} : ∀ {w w' : List UInt8}, bhd w c = some w' → (∀ x ∈ w, p x) → ∀ x ∈ w', p x
 | [], _, h, _ => by cases h
 | x :: w, w', h, ha => by
  unfold bhd at h
  split at h
  ·cases h; exact fun y hy => ha y (List.mem_cons_of_mem _ hy)
  ·exact bhd_all h (fun y hy => ha y (List.mem_cons_of_mem _ hy))
theorem arN_down {k n : Nat} {c : UInt8} (hc : c ∈ lets k) : ∀ {w m : List UInt8}, n + 1 ≤ arN k m w → c ∉ m → ∃ w', bhd w c = some w' ∧ n ≤ arN k [] w'
 | [], m, h, _ => by unfold arN at h; omega
 | x :: w, m, h, hm => by
  unfold arN at h
  by_cases hx : x = c
  ·refine ⟨w, by unfold bhd; rw [if_pos hx], ?_⟩
   cases hf : fullM k (x :: m) with
   | true => rw [hf] at h; simp only [] at h; omega
   | false =>
    rw [hf] at h
    simp only [] at h
    have := arN_one (k := k) (w := w) (m := x :: m)
    omega
  ·have hcm : c ∉ x :: m := fun e => (List.mem_cons.1 e).elim (fun e => hx e.symm) hm
   have hf : fullM k (x :: m) = false := by
    cases hf : fullM k (x :: m) with
    | false => rfl
    | true => exact absurd (fullM_iff.1 hf c hc) hcm
   rw [hf] at h
   obtain ⟨w', h1, h2⟩ := arN_down hc h hcm
   exact ⟨w', by unfold bhd; rw [if_neg hx]; exact h1, h2⟩
theorem arN_up {k n : Nat} : ∀ {w m : List UInt8}, (∀ x ∈ w, x ∈ lets k) → fullM k m = false → (∀ c ∈ lets k, c ∉ m → ∃ w', bhd w c = some w' ∧ n ≤ arN k [] w') → n + 1 ≤ arN k m w
 | [], m, _, hm, h => by
  have : ∃ c ∈ lets k, c ∉ m := by
   refine Classical.byContradiction fun hn => ?_
   have : fullM k m = true := fullM_iff.2 fun c hc => Classical.byContradiction fun hcm => hn ⟨c, hc, hcm⟩
   rw [hm] at this; cases this
  obtain ⟨c, h1, h2⟩ := this
  obtain ⟨w', h3, _⟩ := h c h1 h2
  cases h3
 | x :: w, m, hw, hm, h => by
  unfold arN
  have hxl := hw x List.mem_cons_self
  cases hf : fullM k (x :: m) with
  | true =>
   simp only []
   have hxm : x ∉ m := fun hx => by
    have : fullM k m = true := fullM_mono (fun y hy => (List.mem_cons.1 hy).elim (fun e => by rw [e]; exact hx) id) hf
    rw [hm] at this; cases this
   obtain ⟨w', h1, h2⟩ := h x hxl hxm
   unfold bhd at h1
   rw [if_pos rfl] at h1
   cases h1
   omega
  | false =>
   simp only []
   refine arN_up (fun y hy => hw y (List.mem_cons_of_mem _ hy)) hf (fun c hc hcm => ?_)
   obtain ⟨w', h1, h2⟩ := h c hc (fun hx => hcm (List.mem_cons_of_mem _ hx))
   unfold bhd at h1
   rw [if_neg (fun e : x = c => hcm (by rw [← e]; exact List.mem_cons_self))] at h1
   exact ⟨w', h1, h2⟩
def fab (k : Nat) : Nat → List UInt8 → Option (List UInt8)
 | 0, _ => none
 | n + 1, w => (lets k).findSome? fun c => match bhd w c with
  | none => some (c :: List.replicate n 97)
  | some w' => (fab k n w').map (c :: ·)
def wrds (k : Nat) : Nat → List (List UInt8)
 | 0 => [[]]
 | n + 1 => (lets k).flatMap fun c => (wrds k n).map (c :: ·)
theorem lets_succ {k : Nat} : ∃ l, lets (k + 1) = 97 :: l := by
 refine ⟨(List.range k).map fun j => UInt8.ofNat (97 + (j + 1)), ?_⟩
 unfold lets
 rw [List.range_succ_eq_map]
 simp [Function.comp_def]
theorem wrds_head {k : Nat} : ∀ n, ∃ l, wrds (k + 1) n = List.replicate n 97 :: l
 | 0 => ⟨[], rfl⟩
 | n + 1 => by
  obtain ⟨l, hl⟩ := wrds_head (k := k) n
  obtain ⟨r, hr⟩ := lets_succ (k := k)
  refine ⟨l.map (97 :: ·) ++ r.flatMap fun c => (wrds (k + 1) n).map (c :: ·), ?_⟩
  rw [wrds, hr]
  simp only [List.flatMap_cons]
  rw [hl]
  simp [List.replicate_succ]
theorem find_flat {α β : Type} {f : α → List β} {p : β → Bool} : ∀ {l : List α}, (l.flatMap f).find? p = l.findSome? fun a => (f a).find? p
 | [] => rfl
 | a :: l => by
  rw [List.flatMap_cons, List.find?_append, List.findSome?_cons, find_flat]
  cases (f a).find? p <;> rfl
theorem find_wrds {k : Nat} : ∀ {n : Nat} {w : List UInt8}, (wrds (k + 1) n).find? (fun p => !leftW w p) = fab (k + 1) n w
 | 0, w => by simp [wrds, fab, left_nil]
 | n + 1, w => by
  unfold wrds fab
  rw [find_flat]
  congr 1
  funext c
  rw [List.find?_map]
  cases hb : bhd w c with
  | none =>
   obtain ⟨l, hl⟩ := wrds_head (k := k) n
   rw [hl]
   simp [bhd_left, hb]
  | some w' =>
   have : ((fun p => !leftW w p) ∘ fun x => c :: x) = fun p => !leftW w' p := by
    funext p
    simp only [Function.comp_def]
    rw [bhd_left, hb]
   rw [this, find_wrds]
theorem fab_none {k : Nat} : ∀ {n : Nat} {w : List UInt8}, (∀ x ∈ w, x ∈ lets (k + 1)) → (fab (k + 1) n w = none ↔ n ≤ arN (k + 1) [] w)
 | 0, w, _ => by simp [fab]
 | n + 1, w, hw => by
  have hnf : fullM (k + 1) [] = false := by
   obtain ⟨l, hl⟩ := lets_succ (k := k)
   unfold fullM
   rw [hl]
   rfl
  unfold fab
  rw [List.findSome?_eq_none_iff]
  constructor
  ·intro h
   refine arN_up hw hnf (fun c hc _ => ?_)
   have h1 := h c hc
   cases hb : bhd w c with
   | none => rw [hb] at h1; cases h1
   | some w' =>
    rw [hb] at h1
    simp only [Option.map_eq_none_iff] at h1
    exact ⟨w', rfl, (fab_none (bhd_all hb hw)).1 h1⟩
  ·intro h c hc
   obtain ⟨w', h1, h2⟩ := arN_down hc h (by simp)
   rw [h1]
   simp only [Option.map_eq_none_iff]
   exact (fab_none (bhd_all h1 hw)).2 h2
end Go.Proofs.Ytmnmfmghmenkkaa

/-
  Arches, and the first of the shortest words that are missing: the mathematics.
  Conditions: none; definitions and lemmas.
-/
import Derived.Test.YtmnmfmghmenkkaaLeft27
set_option linter.unusedSimpArgs false
set_option linter.unusedVariables false
namespace Go.Proofs.Ytmnmfmghmenkkaa
theorem nodup_le {α : Type} [DecidableEq α] : ∀ {l m : List α}, l.Nodup → (∀ x ∈ l, x ∈ m) → l.length ≤ m.length
 | [], m, _, _ => Nat.zero_le _
 | x :: l, m, hn, hs => by
  have h1 := List.nodup_cons.1 hn
  have hx := hs x List.mem_cons_self
  have h2 : ∀ y ∈ l, y ∈ m.erase x := fun y hy => (List.mem_erase_of_ne (fun e => h1.1 (by rw [← e]; exact hy))).2 (hs y (List.mem_cons_of_mem _ hy))
  have h3 := nodup_le h1.2 h2
  rw [List.length_erase_of_mem hx] at h3
  have h4 : 0 < m.length := List.length_pos_of_mem hx
  simp only [List.length_cons]
  omega
def lets (k : Nat) : List UInt8 := (List.range k).map fun j => UInt8.ofNat (97 + j)
theorem lets_len {k : Nat} : (lets k).length = k := by simp [lets]
theorem lets_mem {k : Nat} (hk : k ≤ 6) {c : UInt8} : c ∈ lets k ↔ 97 ≤ c.toNat ∧ c.toNat < 97 + k := by
 unfold lets
 rw [List.mem_map]
 constructor
 ·rintro ⟨j, hj, rfl⟩
  have := List.mem_range.1 hj
  have e : (UInt8.ofNat (97 + j)).toNat = 97 + j := by
   rw [UInt8.toNat_ofNat']; omega
  omega
 ·rintro ⟨h1, h2⟩
  refine ⟨c.toNat - 97, List.mem_range.2 (by omega), ?_⟩
  apply UInt8.toNat_inj.1
  rw [UInt8.toNat_ofNat']
  omega
theorem lets_nodup {k : Nat} (hk : k ≤ 6) : (lets k).Nodup := by
 unfold lets
 unfold List.Nodup
 rw [List.pairwise_map]
 refine List.Pairwise.imp_of_mem (fun {a b} ha hb hne e => hne ?_) List.nodup_range
 have h1 := List.mem_range.1 ha
 have h2 := List.mem_range.1 hb
 have := congrArg UInt8.toNat e
 rw [UInt8.toNat_ofNat', UInt8.toNat_ofNat'] at this
 omega
def fullM (k : Nat) (m : List UInt8) : Bool := (lets k).all fun c => decide (c ∈ m)
theorem fullM_iff {k : Nat} {m : List UInt8} : fullM k m = true ↔ ∀ c ∈ lets k, c ∈ m := by
 unfold fullM
 simp [List.all_eq_true]
theorem fullM_mono {k : Nat} {m m' : List UInt8} (h : ∀ x ∈ m, x ∈ m') (hf : fullM k m = true) : fullM k m' = true :=
 fullM_iff.2 fun c hc => h c (fullM_iff.1 hf c hc)
def arN (k : Nat) : List UInt8 → List UInt8 → Nat
 | _, [] => 0
 | m, c :: w => match fullM k (c :: m) with
  | true => 1 + arN k [] w
  | false => arN k (c :: m) w
theorem arN_both (k : Nat) : ∀ (w : List UInt8), (∀ m m', (∀ x ∈ m, x ∈ m') → arN k m w ≤ arN k m' w) ∧ ∀ m, arN k m w ≤ 1 + arN k [] w
 | [] => ⟨fun _ _ _ => Nat.le_refl _, fun _ => Nat.zero_le _⟩
 | c :: w => by
  obtain ⟨i1, i2⟩ := arN_both k w
  have hmono : ∀ m m', (∀ x ∈ m, x ∈ m') → arN k m (c :: w) ≤ arN k m' (c :: w) := fun m m' h => by
   have hs : ∀ x ∈ c :: m, x ∈ c :: m' := fun x hx => by
    rcases List.mem_cons.1 hx with rfl | hx
    ·exact List.mem_cons_self
    ·exact List.mem_cons_of_mem _ (h x hx)
   unfold arN
   cases h1 : fullM k (c :: m) with
   | true => rw [fullM_mono hs h1]; exact Nat.le_refl _
   | false =>
    cases h2 : fullM k (c :: m') with
    | true => exact i2 _
    | false => exact i1 _ _ hs
  refine ⟨hmono, fun m => ?_⟩
  have h0 : arN k [] w ≤ arN k [] (c :: w) := by
   conv => rhs; unfold arN
   cases fullM k [c] with
   | true => simp only []; omega
   | false => exact i1 _ _ (fun x hx => by cases hx)
  have h1 : arN k m (c :: w) = 1 + arN k [] w ∨ (fullM k (c :: m) = false ∧ arN k m (c :: w) = arN k (c :: m) w) := by
   conv => lhs; lhs; unfold arN
   cases h : fullM k (c :: m) with
   | true => exact .inl rfl
   | false =>
    refine .inr ⟨rfl, ?_⟩
    conv => lhs; unfold arN
    rw [h]
  rcases h1 with h1 | ⟨_, h1⟩
  ·omega
  ·have := i2 (c :: m)
   omega
theorem arN_mono {k : Nat} {w m m' : List UInt8} (h : ∀ x ∈ m, x ∈ m') : arN k m w ≤ arN k m' w := (arN_both k w).1 m m' h
theorem arN_one {k : Nat} {w m : List UInt8} : arN k m w ≤ 1 + arN k [] w := (arN_both k w).2 m
def bhd : List UInt8 → UInt8 → Option (List UInt8)
 | [], _ => none
 | x :: w, c => if x = c then some w else bhd w c
theorem bhd_left {c : UInt8} {p : List UInt8} : ∀ {w : List UInt8}, leftW w (c :: p) = match bhd w c with
  | some w' => leftW w' p
  | none => false
 | [] => by rw [leftW, bhd]
 | x :: w => by
  rw [leftW, bhd]
  by_cases h : x = c
  ·rw [if_pos h, if_pos h]
  ·rw [if_neg h, if_neg h]; exact bhd_left
end Go.Proofs.Ytmnmfmghmenkkaa

/-
  Words by numbers: what made, sized and taken answer.
  Conditions: none; lemmas.
-/
import Derived.Test.YtmnmfmghmenkkaaLawC
import Derived.Test.YtmnmfmghmenkkaaKnown1
set_option linter.unusedSimpArgs false
set_option linter.unusedVariables false
namespace Go.Proofs.Ytmnmfmghmenkkaa
open Go.Abs Go.Pur
set_option maxRecDepth 100000
def byteI (z : Int) : Prop := 0 ≤ z ∧ z ≤ 255
theorem tmod_nat {a b : Nat} : Int.tmod (a : Int) (b : Int) = ((a % b : Nat) : Int) := by
 rw [Int.tmod_eq_emod_of_nonneg (by omega)]
 simp
theorem bysV_ints : ∀ {l : List Int}, (∀ z ∈ l, byteI z) → bysV (l.map (Value.int .u8)) = some (l.map fun z => z.toNat.toUInt8)
 | [], _ => rfl
 | z :: l, h => by
  obtain ⟨h0, h1⟩ := h z List.mem_cons_self
  obtain ⟨c, rfl⟩ : ∃ c : Nat, z = Int.ofNat c := ⟨z.toNat, (Int.toNat_of_nonneg h0).symm⟩
  have hc : Nat.blt c 256 = true := Nat.ble_eq_true_of_le (by simp at h1; omega)
  simp only [List.map_cons, bysV, byV, hc, bysV_ints (fun y hy => h y (List.mem_cons_of_mem _ hy))]
  rfl
theorem lt_mem {k : Nat} (h1 : 1 ≤ k) (h6 : k ≤ 6) {c : UInt8} : lt k c ∈ lets k := by
 rw [lets_mem h6]
 unfold lt
 rw [tmod_nat, Int.toNat_natCast]
 obtain ⟨j, hj, hjk⟩ : ∃ j, c.toNat % k = j ∧ j < k := ⟨_, rfl, Nat.mod_lt _ (by omega)⟩
 rw [hj]
 have hj6 : j < 6 := by omega
 match j, hj6 with
 | 0, _ | 1, _ | 2, _ | 3, _ | 4, _ | 5, _ => simp [abc]; try omega
theorem made_law {l : List Int} (hl : l.length = 11) (hb : ∀ z ∈ l, byteI z) {n k : Nat} (hn : n ≤ 10) (h1 : 1 ≤ k) (h6 : k ≤ 6) : ∃ w, f51O l n k = some w ∧ w.length ≤ n ∧ ∀ c ∈ w, c ∈ lets k := by
 have hx := bysV_ints hb
 cases l with
 | nil => cases hl
 | cons z l =>
  rw [List.map_cons] at hx
  refine ⟨(((l.map fun z => z.toNat.toUInt8).take (z.toNat.toUInt8.toNat % (n + 1))).map (lt k)), ?_, ?_, ?_⟩
  ·unfold f51O slipV
   simp only [show (n : Int) = Int.ofNat n from rfl, show (k : Int) = Int.ofNat k from rfl, e51, List.map_cons, hx]
   rw [show Nat.beq (Value.int IntKind.u8 z :: List.map (Value.int IntKind.u8) l).toArray.size 11 = true by simp at hl ⊢; omega, Nat.ble_eq_true_of_le hn, Nat.ble_eq_true_of_le h1, Nat.ble_eq_true_of_le h6]
   simp only [txtO]
  ·have := Nat.mod_lt z.toNat.toUInt8.toNat (show 0 < n + 1 by omega)
   simp only [List.length_map, List.length_take]
   omega
  ·intro c hc
   obtain ⟨d, _, rfl⟩ := List.mem_map.1 hc
   exact lt_mem h1 h6
theorem taken_law {w : List UInt8} (hw : w.length ≤ 1000) (m : Int) : ∃ p, f53O w m = some p ∧ p.Sublist w := by
 refine ⟨tk (tkB m) w w.length, ?_, ?_⟩
 ·unfold f53O
  simp only [e53]
  rw [show Nat.ble (bs w).size 1000 = true from Nat.ble_eq_true_of_le hw]
  rfl
 ·have := tk_sub (f := tkB m) (l := w) w.length
  rwa [List.take_length] at this
theorem checkW_ok {w : List UInt8} (hw : w.length ≤ 10) (hl : ∀ c ∈ w, c ∈ lets 6) : checkW w = 0 := by
 unfold checkW
 rw [if_neg (by omega), if_pos]
 rw [List.all_eq_true]
 intro c hc
 have := (lets_mem (k := 6) (Nat.le_refl 6)).1 (hl c hc)
 unfold letW
 simp only [Bool.and_eq_true, decide_eq_true_eq]
 omega
theorem lets_up {k : Nat} (hk : k ≤ 6) {c : UInt8} (h : c ∈ lets k) : c ∈ lets 6 := by
 rw [lets_mem hk] at h
 rw [lets_mem (Nat.le_refl 6)]
 omega
theorem leftO_at {w p : List UInt8} (hw : w.length ≤ 1000) : leftO w p = some (leftW w p) := by
 unfold leftO
 rw [Nat.ble_eq_true_of_le hw]
end Go.Proofs.Ytmnmfmghmenkkaa

/-
  ShortDiffer, ShortSimon: what the laws want of first, Apart, Alike.
  Conditions: none; lemmas.
-/
import Derived.Test.YtmnmfmghmenkkaaSearchLaw
import Derived.Test.YtmnmfmghmenkkaaMathP
import Derived.Test.YtmnmfmghmenkkaaLaw3
import Derived.Test.YtmnmfmghmenkkaaExt0
import Derived.Test.YtmnmfmghmenkkaaLaw9
set_option linter.unusedSimpArgs false
set_option linter.unusedVariables false
namespace Go.Proofs.Ytmnmfmghmenkkaa
open Go.Abs Go.Pur
set_option maxRecDepth 100000
def fst2 (a b : List UInt8) : List UInt8 × Bool := fst49 (prtM a (2 ^ a.length)).1 (prtM b (2 ^ b.length)).1
theorem f49_at {a b : List UInt8} : f49O (prtM a (2 ^ a.length)).1 (prtM a (2 ^ a.length)).2 (prtM b (2 ^ b.length)).1 (prtM b (2 ^ b.length)).2 = some (fst2 a b) := by
 have h : ∀ w : List UInt8, stOK (prtM w (2 ^ w.length)).2 (prtM w (2 ^ w.length)).1 = true := fun w => by
  have := prtM_st (w := w) (v := 2 ^ w.length)
  unfold stOK
  rw [decide_eq_true this.1, decide_eq_true this.2]
  rfl
 unfold f49O
 rw [h a, h b]
 rfl
theorem tel_dif {a b q : List UInt8} : Tel a b q ↔ dif49 (prtM a (2 ^ a.length)).1 (prtM b (2 ^ b.length)).1 q = true := by
 rw [tel_left]
 unfold dif49
 have h : ∀ w : List UInt8, decide (0 < mGetD 0 q (prtM w (2 ^ w.length)).1) = leftW w q := fun w => by
  cases h : leftW w q with
  | true => exact decide_eq_true (prtM_has.2 h)
  | false => exact decide_eq_false fun h2 => by rw [prtM_has.1 h2] at h; cases h
 rw [h a, h b]
 cases leftW a q <;> cases leftW b q <;> simp
theorem key_of {w q : List UInt8} (h : leftW w q = true) : q ∈ (prtM w (2 ^ w.length)).1.map (·.1) := prtM_keys.2 (tkN_all (leftW_sub.1 h))
theorem tel_key {a b q : List UInt8} (h : Tel a b q) : q ∈ (prtM a (2 ^ a.length)).1.map (·.1) ++ (prtM b (2 ^ b.length)).1.map (·.1) := by
 rw [tel_left] at h
 cases h1 : leftW a q with
 | true => exact List.mem_append_left _ (key_of h1)
 | false =>
  refine List.mem_append_right _ (key_of ?_)
  rw [h1] at h
  cases h2 : leftW b q with
  | true => rfl
  | false => exact absurd h2.symm h
theorem tel_in {a b q : List UInt8} (h : Tel a b q) : q.Sublist a ∨ q.Sublist b := by
 rw [tel_left] at h
 cases h1 : leftW a q with
 | true => exact .inl (leftW_sub.1 h1)
 | false =>
  rw [h1] at h
  cases h2 : leftW b q with
  | true => exact .inr (leftW_sub.1 h2)
  | false => exact absurd h2.symm h
theorem first_two {a b : List UInt8} : ((fst2 a b).2 = true ∧ Tel a b (fst2 a b).1 ∧ ∀ q, Tel a b q → ¬ slt q (fst2 a b).1) ∨ ((fst2 a b).2 = false ∧ a = b) := by
 have h := bst_ok (D := dif49 (prtM a (2 ^ a.length)).1 (prtM b (2 ^ b.length)).1) (l := (prtM a (2 ^ a.length)).1.map (·.1) ++ (prtM b (2 ^ b.length)).1.map (·.1)) (L := []) (s := ([], false)) ⟨rfl, fun k hk => by cases hk⟩
 have e : bst (dif49 (prtM a (2 ^ a.length)).1 (prtM b (2 ^ b.length)).1) ((prtM a (2 ^ a.length)).1.map (·.1) ++ (prtM b (2 ^ b.length)).1.map (·.1)) ([], false) = fst2 a b := rfl
 rw [e, List.nil_append] at h
 cases hs : (fst2 a b).2 with
 | true =>
  rw [hs] at h
  exact .inl ⟨rfl, tel_dif.2 h.2.1, fun q hq => h.2.2 q (tel_key hq) (tel_dif.1 hq)⟩
 | false =>
  rw [hs] at h
  refine .inr ⟨rfl, ?_⟩
  have hno : ∀ q, ¬ Tel a b q := fun q hq => by
   have := h.2 q (tel_key hq)
   rw [tel_dif.1 hq] at this
   cases this
  have h1 : leftW b a = true := by
   have := hno a
   rw [tel_left, leftW_sub.2 (List.Sublist.refl a)] at this
   cases h2 : leftW b a with
   | true => rfl
   | false => rw [h2] at this; exact absurd (by simp) this
  have h2 : leftW a b = true := by
   have := hno b
   rw [tel_left, leftW_sub.2 (List.Sublist.refl b)] at this
   cases h2 : leftW a b with
   | true => rfl
   | false => rw [h2] at this; exact absurd (by simp) this
  exact (leftW_sub.1 h1).eq_of_length_le (leftW_sub.1 h2).length_le
section
variable {a b : List UInt8} (ha : a.length ≤ 10) (hb : b.length ≤ 10) (hla : ∀ c ∈ a, c ∈ lets 6) (hlb : ∀ c ∈ b, c ∈ lets 6)
include ha hb hla hlb
set_option linter.unusedSectionVars false
theorem bfs_at {p : List UInt8} (ht : Tel a b p) (hmin : ∀ q, Tel a b q → ¬ slt q p) {most : Int} : bfs0 a b most = if (p.length : Int) ≤ most then some p else none := by
 have hpl : ∀ c ∈ p, c ∈ lets 6 := fun c hc => by
  rcases tel_in ht with h | h
  ·exact hla c (h.subset hc)
  ·exact hlb c (h.subset hc)
 by_cases h : (p.length : Int) ≤ most
 ·rw [if_pos h]; exact bfs_first ha hb ht hmin hpl h
 ·rw [if_neg h]
  cases hr : bfs0 a b most with
  | none => rfl
  | some r =>
   obtain ⟨h1, h2⟩ := bfs0_sound hr
   exact absurd (.inl (by omega)) (hmin r h1)
omit hla hlb ha hb in
theorem bfs_same {most : Int} : bfs0 a a most = none := by
 cases hr : bfs0 a a most with
 | none => rfl
 | some r => exact absurd rfl (bfs0_sound hr).1
theorem f70_at {most : Int} (hm : most ≤ 10) : f70O a b most = some ((bfs0 a b most).getD [], (bfs0 a b most).isSome) := by
 unfold f70O
 rw [decide_eq_true ha, decide_eq_true hb, decide_eq_true hm]
 rfl
theorem f40_law {F : Nat} (hF : 3 ≤ F) : f40S F a b = some (match bfs0 a b 10 with | some p => (p, 0) | none => ([], 13)) := by
 unfold f40S
 rw [f57_ok hF (checkW_ok ha hla) (checkW_ok hb hlb), Option.bind_some, Option.bind_some, decide_eq_true rfl]
 dsimp only
 rw [f70_at ha hb hla hlb (by omega), Option.bind_some]
 cases bfs0 a b 10 <;> rfl
theorem f42_law {F : Nat} (hF : 3 ≤ F) {v : Nat} (hv : v ≤ 10) : f42S F a b (v : Int) = some (!(bfs0 a b v).isSome, 0) := by
 unfold f42S
 rw [f57_ok hF (checkW_ok ha hla) (checkW_ok hb hlb), Option.bind_some, Option.bind_some, decide_eq_true rfl]
 dsimp only
 rw [Option.bind_some, decide_eq_false (by omega)]
 dsimp only
 rw [Option.bind_some, decide_eq_false (by omega)]
 dsimp only
 rw [f70_at ha hb hla hlb (by omega), Option.bind_some]
end
end Go.Proofs.Ytmnmfmghmenkkaa

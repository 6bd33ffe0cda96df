/-
  ShortDiffer, ShortSimon: what the laws want of first, Apart, Alike.
  Conditions: none; lemmas.
-/
import Derived.Test.YtmnmfmghmenkkaaSearchLaw
import Derived.Test.YtmnmfmghmenkkaaMathP
import Derived.Test.YtmnmfmghmenkkaaLaw3
import Derived.Test.YtmnmfmghmenkkaaExt0
import Derived.Test.YtmnmfmghmenkkaaLaw9
set_option linter.unusedSimpArgs false
set_option linter.unusedVariables false
namespace Go.Proofs.Ytmnmfmghmenkkaa
open Go.Abs Go.Pur
set_option maxRecDepth 100000
def fst2 (a b : List UInt8) : List UInt8 × Bool := fst49 (prtM a (2 ^ a.length)).1 (prtM b (2 ^ b.length)).1
theorem f49_at {a b : List UInt8} : f49O (prtM a (2 ^ a.length)).1 (prtM a (2 ^ a.length)).2 (prtM b (2 ^ b.length)).1 (prtM b (2 ^ b.length)).2 = some (fst2 a b) := by
 have h : ∀ w : List UInt8, stOK (prtM w (2 ^ w.length)).2 (prtM w (2 ^ w.length)).1 = true := fun w => by
  have := prtM_st (w := w) (v := 2 ^ w.length)
  unfold stOK
  rw [decide_eq_true this.1, decide_eq_true this.2]
  rfl
 unfold f49O
 rw [h a, h b]
 rfl
theorem tel_dif {a b q : List UInt8} : Tel a b q ↔ dif49 (prtM a (2 ^ a.length)).1 (prtM b (2 ^ b.length)).1 q = true := by
 rw [tel_left]
 unfold dif49
 have h : ∀ w : List UInt8, decide (0 < mGetD 0 q (prtM w (2 ^ w.length)).1) = leftW w q := fun w => by
  cases h : leftW w q with
  | true => exact decide_eq_true (prtM_has.2 h)
  | false => exact decide_eq_false fun h2 => by rw [prtM_has.1 h2] at h; cases h
 rw [h a, h b]
 cases leftW a q <;> cases leftW b q <;> simp
theorem key_of {w q : List UInt8} (h : leftW w q = true) : q ∈ (prtM w (2 ^ w.length)).1.map (·.1) := prtM_keys.2 (tkN_all (leftW_sub.1 h))
theorem tel_key {a b q : List UInt8} (h : Tel a b q) : q ∈ (prtM a (2 ^ a.length)).1.map (·.1) ++ (prtM b (2 ^ b.length)).1.map (·.1) := by
 rw [tel_left] at h
 cases h1 : leftW a q with
 | true => exact List.mem_append_left _ (key_of h1)
 | false =>
  refine List.mem_append_right _ (key_of ?_)
  rw [h1] at h
  cases h2 : leftW b q with
  | true => rfl
  | false => exact absurd h2.symm h
theorem tel_in {a b q : List UInt8} (h : Tel a b q) : q.Sublist a ∨ q.Sublist b := by
 rw [tel_left] at h
 cases h1 : leftW a q with
 | true => exact .inl (leftW_sub.1 h1)
 | false =>
  rw [h1] at h
  cases h2 : leftW b q with
  | true => exact .inr (leftW_sub.1 h2)
  | false => exact absurd h2.symm h
theorem tel_comm {a b q : List UInt8} : Tel a b q ↔ Tel b a q := by unfold Tel; exact ne_comm
theorem first_two {a b : List UInt8} : ((fst2 a b).2 = true ∧ Tel a b (fst2 a b).1 ∧ ∀ q, Tel a b q → ¬ slt q (fst2 a b).1) ∨ ((fst2 a b).2 = false ∧ a = b) := by
 have h := bst_ok (D := dif49 (prtM a (2 ^ a.length)).1 (prtM b (2 ^ b.length)).1) (l := (prtM a (2 ^ a.length)).1.map (·.1) ++ (prtM b (2 ^ b.length)).1.map (·.1)) (L := []) (s := ([], false)) ⟨rfl, fun k hk => by cases hk⟩
 have e : bst (dif49 (prtM a (2 ^ a.length)).1 (prtM b (2 ^ b.length)).1) ((prtM a (2 ^ a.length)).1.map (·.1) ++ (prtM b (2 ^ b.length)).1.map (·.1)) ([], false) = fst2 a b := rfl
 rw [e, List.nil_append] at h
 cases hs : (fst2 a b).2 with
 | true =>
  rw [hs] at h
  exact .inl ⟨rfl, tel_dif.2 h.2.1, fun q hq => h.2.2 q (tel_key hq) (tel_dif.1 hq)⟩
 | false =>
  rw [hs] at h
  refine .inr ⟨rfl, ?_⟩
  have hno : ∀ q, ¬ Tel a b q := fun q hq => by
   have := h.2 q (tel_key hq)
   rw [tel_dif.1 hq] at this
   cases this
  have h1 : leftW b a = true := by
   have := hno a
   rw [tel_left, leftW_sub.2 (List.Sublist.refl a)] at this
   cases h2 : leftW b a with
   | true => rfl
   | false => rw [h2] at this; exact absurd (by simp) this
  have h2 : leftW a b = true := by
   have := hno b
   rw [tel_left, leftW_sub.2 (List.Sublist.refl b)] at this
   cases h2 : leftW a b with
   | true => rfl
   | false => rw [h2] at this; exact absurd (by simp) this
  exact (leftW_sub.1 h1).eq_of_length_le (leftW_sub.1 h2).length_le
section
variable {a b : List UInt8} (ha : a.length ≤ 10) (hb : b.length ≤ 10) (hla : ∀ c ∈ a, c ∈ lets 6) (hlb : ∀ c ∈ b, c ∈ lets 6)
include ha hb hla hlb
set_option linter.unusedSectionVars false
theorem bfs_at {p : List UInt8} (ht : Tel a b p) (hmin : ∀ q, Tel a b q → ¬ slt q p) {most : Int} : bfs0 a b most = if (p.length : Int) ≤ most then some p else none := by
 have hpl : ∀ c ∈ p, c ∈ lets 6 := fun c hc => by
  rcases tel_in ht with h | h
  ·exact hla c (h.subset hc)
  ·exact hlb c (h.subset hc)
 by_cases h : (p.length : Int) ≤ most
 ·rw [if_pos h]; exact bfs_first ha hb ht hmin hpl h
 ·rw [if_neg h]
  cases hr : bfs0 a b most with
  | none => rfl
  | some r =>
   obtain ⟨h1, h2⟩ := bfs0_sound hr
   exact absurd (.inl (by omega)) (hmin r h1)
omit hla hlb ha hb in
theorem bfs_same {most : Int} : bfs0 a a most = none := by
 cases hr : bfs0 a a most with
 | none => rfl
 | some r => exact absurd rfl (bfs0_sound hr).1
theorem f70_at {most : Int} (hm : most ≤ 10) : f70O a b most = some ((bfs0 a b most).getD [], (bfs0 a b most).isSome) := by
 unfold f70O
 rw [decide_eq_true ha, decide_eq_true hb, decide_eq_true hm]
 rfl
theorem f40_law {F : Nat} (hF : 3 ≤ F) : f40S F a b = some (match bfs0 a b 10 with | some p => (p, 0) | none => ([], 13)) := by
 unfold f40S
 rw [f57_ok hF (checkW_ok ha hla) (checkW_ok hb hlb), Option.bind_some, Option.bind_some, decide_eq_true rfl]
 dsimp only
 rw [f70_at ha hb hla hlb (by omega), Option.bind_some]
 cases bfs0 a b 10 <;> rfl
end
theorem f9_law {l l' : List Int} (hl : l.length = 11) (hl' : l'.length = 11) {a b c d e f g h i j k a' b' c' d' e' f' g' h' i' j' k' : Int} (he : l = [a, b, c, d, e, f, g, h, i, j, k]) (he' : l' = [a', b', c', d', e', f', g', h', i', j', k']) (hb : ∀ z ∈ l, byteI z) (hb' : ∀ z ∈ l', byteI z) {p : Int} (hp : byteI p) {F : Nat} (hF : 1100 ≤ F) : f9S F a b c d e f g h i j k a' b' c' d' e' f' g' h' i' j' k' p = some true := by
 obtain ⟨R, rfl⟩ : ∃ R : Nat, p = R := ⟨p.toNat, (Int.toNat_of_nonneg hp.1).symm⟩
 obtain ⟨q, hq, hq1, hq6⟩ : ∃ q : Nat, R % 6 + 1 = q ∧ 0 < q ∧ q ≤ 6 := ⟨_, rfl, by omega, by have := Nat.mod_lt R (show 0 < 6 by omega); omega⟩
 unfold f9S
 rw [← he, ← he', Option.bind_some, wrap64 (z := (R : Int)) (by omega) (by have := hp.2; omega), Option.bind_some, show (6 : Int) = ((6 : Nat) : Int) from rfl, tmod_nat, Option.bind_some, show IntKind.i64.wrap (1 + ((R % 6 : Nat) : Int)) = (q : Int) by rw [wrap64 (by omega) (by omega)]; omega]
 obtain ⟨x, hx, hxl, hxm⟩ := made_law hl hb (n := 8) (k := q) (by omega) (by omega) (by omega)
 obtain ⟨y, hy, hyl, hym⟩ := made_law hl' hb' (n := 8) (k := q) (by omega) (by omega) (by omega)
 have hx6 := fun c hc => lets_up hq6 (hxm c hc)
 have hy6 := fun c hc => lets_up hq6 (hym c hc)
 rw [show (8 : Int) = ((8 : Nat) : Int) from rfl, hx, Option.bind_some, hy, Option.bind_some, show f50S F x = some ((prtM x (2 ^ x.length)).1, (prtM x (2 ^ x.length)).2) from f50_law (by omega) hF, Option.bind_some]
 dsimp only
 rw [show f50S F y = some ((prtM y (2 ^ y.length)).1, (prtM y (2 ^ y.length)).2) from f50_law (by omega) hF, Option.bind_some]
 dsimp only
 rw [f49_at, Option.bind_some]
 have hX := f40_law (a := x) (b := y) (by omega) (by omega) hx6 hy6 (F := F) (by omega)
 have hY := f40_law (a := y) (b := x) (by omega) (by omega) hy6 hx6 (F := F) (by omega)
 rcases first_two (a := x) (b := y) with ⟨h1, h2, h3⟩ | ⟨h1, h2⟩
 ·have hpl : (fst2 x y).1.length ≤ 8 := by
   rcases tel_in h2 with h | h
   ·exact Nat.le_trans h.length_le hxl
   ·exact Nat.le_trans h.length_le hyl
  rw [bfs_at (by omega) (by omega) hx6 hy6 h2 h3, if_pos (by omega)] at hX
  rw [bfs_at (by omega) (by omega) hy6 hx6 (tel_comm.1 h2) (fun q hq => h3 q (tel_comm.1 hq)), if_pos (by omega)] at hY
  rcases hrs : fst2 x y with ⟨r, s⟩
  rw [hrs] at hX hY h1
  dsimp only at hX hY h1 ⊢
  subst h1
  rw [hX, Option.bind_some]
  dsimp only
  rw [hY, Option.bind_some]
  simp
 ·subst h2
  rw [bfs_same] at hX
  rcases hrs : fst2 x x with ⟨r, s⟩
  rw [hrs] at h1
  dsimp only at h1 hX ⊢
  subst h1
  rw [hX, Option.bind_some]
  dsimp only
  rw [Option.bind_some]
  simp
end Go.Proofs.Ytmnmfmghmenkkaa

/-
  The first of the shortest words that are missing: what the functions compute.
  Conditions: none; lemmas.
-/
import Derived.Test.YtmnmfmghmenkkaaLaw5a
import Derived.Test.YtmnmfmghmenkkaaLaw3c
set_option linter.unusedSimpArgs false
set_option linter.unusedVariables false
namespace Go.Proofs.Ytmnmfmghmenkkaa
open Go.Abs Go.Pur
set_option maxRecDepth 100000
theorem same_full {k : Nat} (hk : k ≤ 6) {m mm : List UInt8} (hn : m.Nodup) (hs : ∀ x ∈ m, x ∈ lets k) (he : ∀ x, x ∈ m ↔ x ∈ mm) : m.length = k ↔ fullM k mm = true := by
 rw [fullM_iff]
 have hle : m.length ≤ k := by have := nodup_le hn hs; rwa [lets_len] at this
 constructor
 ·intro h c hc
  rw [← he]
  refine Classical.byContradiction fun hcm => ?_
  have h1 : (c :: m).Nodup := List.nodup_cons.2 ⟨hcm, hn⟩
  have h2 := nodup_le h1 (m := lets k) (fun x hx => (List.mem_cons.1 hx).elim (fun e => by rw [e]; exact hc) (hs x))
  rw [lets_len] at h2
  simp only [List.length_cons] at h2
  omega
 ·intro h
  have h2 := nodup_le (lets_nodup hk) (m := m) (fun x hx => (he x).2 (h x hx))
  rw [lets_len] at h2
  omega
theorem archL_arN {k : Nat} (hk : k ≤ 6) : ∀ {w m mm : List UInt8} {i : Nat}, (∀ x ∈ w, x ∈ lets k) → m.Nodup → (∀ x ∈ m, x ∈ lets k) → (∀ x, x ∈ m ↔ x ∈ mm) → (archL k m w i).length = arN k mm w
 | [], _, _, _, _, _, _, _ => rfl
 | c :: w, m, mm, i, hw, hn, hs, he => by
  have hc := hw c List.mem_cons_self
  have hw' : ∀ x ∈ w, x ∈ lets k := fun x hx => hw x (List.mem_cons_of_mem _ hx)
  have hn' : (if c ∈ m then m else m ++ [c]).Nodup := by
   by_cases h : c ∈ m
   ·rw [if_pos h]; exact hn
   ·rw [if_neg h]
    rw [List.nodup_append]
    refine ⟨hn, by simp, fun a ha b hb e => h ?_⟩
    rw [List.mem_singleton.1 hb] at e
    rw [← e]; exact ha
  have he' : ∀ x, x ∈ (if c ∈ m then m else m ++ [c]) ↔ x ∈ c :: mm := fun x => by
   by_cases h : c ∈ m
   ·rw [if_pos h, List.mem_cons, ← he x]
    exact ⟨.inr, fun e => e.elim (fun e => by rw [e]; exact h) id⟩
   ·rw [if_neg h]
    simp only [List.mem_append, List.mem_singleton, List.mem_cons, ← he x, List.not_mem_nil, or_false]
    exact Or.comm
  have hs' : ∀ x ∈ (if c ∈ m then m else m ++ [c]), x ∈ lets k := fun x hx => by
   have := (he' x).1 hx
   rcases List.mem_cons.1 this with rfl | h
   ·exact hc
   ·exact hs x ((he x).2 h)
  have hf := same_full hk hn' hs' he'
  rw [archL, arN]
  by_cases h : (if c ∈ m then m else m ++ [c]).length = k
  ·rw [if_pos h, hf.1 h]
   simp only [List.length_cons]
   rw [archL_arN hk hw' List.nodup_nil (fun x hx => by cases hx) (fun x => Iff.rfl)]
   omega
  ·rw [if_neg h]
   have hf2 : fullM k (c :: mm) = false := by
    cases hq : fullM k (c :: mm) with
    | false => rfl
    | true => exact absurd (hf.2 hq) h
   rw [hf2]
   exact archL_arN hk hw' hn' hs' he'
theorem archI_len {k : Nat} (hk : k ≤ 6) {w : List UInt8} (hw : ∀ x ∈ w, x ∈ lets k) : (archI k w).length = arN k [] w := by
 unfold archI
 rw [List.length_map]
 exact archL_arN hk hw List.nodup_nil (fun x hx => by cases hx) (fun x => Iff.rfl)
theorem archL_mul {k : Nat} : ∀ {w m : List UInt8} {i : Nat}, (archL k m w i).length * k ≤ w.length + m.length
 | [], _, _ => by simp [archL]
 | c :: w, m, i => by
  rw [archL]
  have hm : (if c ∈ m then m else m ++ [c]).length ≤ m.length + 1 := by
   split
   ·omega
   ·simp
  generalize (if c ∈ m then m else m ++ [c]) = m' at hm
  split
  ·rename_i h
   have h2 := archL_mul (k := k) (w := w) (m := []) (i := i + 1)
   simp only [List.length_cons, List.length_nil, Nat.succ_mul] at h2 ⊢
   omega
  ·have h2 := archL_mul (k := k) (w := w) (m := m') (i := i + 1)
   simp only [List.length_cons]
   omega
def ints (w : List UInt8) : List Int := w.map fun b => (b.toNat : Int)
theorem ints_at {w : List UInt8} {i : Nat} (h : i < w.length) : gI (ints w) (i : Int) = some (w[i].toNat : Int) := by
 rw [gI_at (by simpa [ints] using h)]
 simp [ints]
theorem bytesN_ints {w : List UInt8} : bytesN (ints w) = w := by
 unfold bytesN ints
 rw [List.map_map]
 conv => rhs; rw [← List.map_id w]
 refine List.map_congr_left fun c _ => ?_
 simp
theorem f68_run {w : List UInt8} {c : UInt8} {F : Nat} (hw : w.length ≤ 1000) : ∀ (n i : Nat), w.length + 1 ≤ n + i → i ≤ w.length →
  (bhd (w.drop i) c = none → f68_L0 F (ints w) (c.toNat : Int) (w.length : Int) (fun _ => some (-1)) n i = some (-1)) ∧
  ∀ w', bhd (w.drop i) c = some w' → ∃ j, j < w.length ∧ w' = w.drop (j + 1) ∧ f68_L0 F (ints w) (c.toNat : Int) (w.length : Int) (fun _ => some (-1)) n i = some (j : Int)
 | 0, i, h, hi => absurd h (by omega)
 | n + 1, i, h, hi => by
  unfold f68_L0
  simp only [Option.bind_some]
  by_cases hi' : i < w.length
  ·rw [decide_eq_true (show (i : Int) < (w.length : Int) by omega)]
   simp only [ints_at hi', Option.bind_some]
   rw [List.drop_eq_getElem_cons hi', bhd]
   by_cases hc : w[i] = c
   ·rw [if_pos hc, decide_eq_true (show (c.toNat : Int) = (w[i].toNat : Int) by rw [hc])]
    exact ⟨fun e => (by cases e), fun w' e => ⟨i, hi', (Option.some.inj e).symm, rfl⟩⟩
   ·have hn : ¬ (c.toNat : Int) = (w[i].toNat : Int) := fun e => hc (UInt8.toNat_inj.1 (by omega))
    rw [if_neg hc, decide_eq_false hn]
    simp only []
    rw [wrap_nat (by omega)]
    exact f68_run hw n (i + 1) (by omega) (by omega)
  ·rw [decide_eq_false (show ¬ (i : Int) < (w.length : Int) by omega), List.drop_eq_nil_of_le (by omega)]
   exact ⟨fun _ => rfl, fun w' e => by cases e⟩
theorem f68_law {w : List UInt8} {c : UInt8} {F : Nat} (hw : w.length ≤ 1000) (hF : w.length + 1 ≤ F) :
  (bhd w c = none → f68S F (ints w) (c.toNat : Int) = some (-1)) ∧ ∀ w', bhd w c = some w' → ∃ j, j < w.length ∧ w' = w.drop (j + 1) ∧ f68S F (ints w) (c.toNat : Int) = some (j : Int) := by
 have hl : (ints w).length = w.length := by simp [ints]
 have := f68_run (w := w) (c := c) (F := F) hw F 0 (by omega) (by omega)
 unfold f68S
 rw [hl]
 simpa using this
theorem wrap8 {z : Int} (h1 : 0 ≤ z) (h2 : z < 256) : IntKind.u8.wrap z = z := by
 unfold IntKind.wrap
 simp [IntKind.bits, IntKind.signed]
 omega
theorem lets_at {k j : Nat} (h : j < k) : (lets k)[j]'(by rw [lets_len]; exact h) = UInt8.ofNat (97 + j) := by simp [lets]
theorem let_nat {j : Nat} (h : j < 6) : ((UInt8.ofNat (97 + j)).toNat : Int) = 97 + (j : Int) := by
 rw [UInt8.toNat_ofNat']
 omega
theorem subF_at {w : List UInt8} {j : Nat} (h : j ≤ w.length) : subF w (j : Int) = some (w.drop j) := by
 show subF w (Int.ofNat j) = _
 simp only [subF]
 rw [Nat.ble_eq_true_of_le h]
theorem ints_app {v : List UInt8} {c : UInt8} {x : Int} (h : (c.toNat : Int) = x) (hv : v.length ≤ 1000) : app1 (ints v) x = some (ints (v ++ [c])) := by
 unfold app1
 rw [Nat.ble_eq_true_of_le (show (ints v).length ≤ 1000000 by simp [ints]; omega)]
 simp [ints, h]
theorem f38_next {F : Nat} {k x : Int} {K : List UInt8 × List UInt8 × Int × List Int → Option (List UInt8 × Int)} {w a : List UInt8} {b v : Int} {o : List Int} : ∀ n, f38_L1 F k x K (n + 1) (w, a, b, o, true, v) = K (w, a, b, o) := fun n => by
 unfold f38_L1
 simp only [Option.bind_some]
 cases decide (v < IntKind.u8.wrap (IntKind.i64.wrap (97 + k))) <;> rfl
theorem f38_run {F k : Nat} (hk : k + 1 ≤ 6) (hF : 12 ≤ F) {w out : List UInt8} (hw : w.length ≤ 10) (hl : ∀ x ∈ w, x ∈ lets (k + 1)) (ho : out.length ≤ 100) {L : Nat} (hL : arN (k + 1) [] w = L) {a : List UInt8} {b : Int}
  {K : List UInt8 × List UInt8 × Int × List Int → Option (List UInt8 × Int)} {p : List UInt8}
  (hK : ∀ w' c p', w'.length < w.length → (∀ x ∈ w', x ∈ lets (k + 1)) → fab (k + 1) (arN (k + 1) [] w' + 1) w' = some p' → p = c :: p' → K (w', a, b, ints (out ++ [c])) = some (out ++ p, 0)) :
  ∀ (n j : Nat), k + 3 ≤ n + j → j ≤ k + 1 → ((lets (k + 1)).drop j).findSome? (fun c => match bhd w c with
   | none => some (c :: List.replicate L 97)
   | some w' => (fab (k + 1) L w').map (c :: ·)) = some p →
  f38_L1 F ((k + 1 : Nat) : Int) (L : Int) K n (w, a, b, ints out, false, 97 + (j : Int)) = some (out ++ p, 0)
 | 0, j, h, hj, hp => absurd h (by omega)
 | n + 1, j, h, hj, hp => by
  by_cases hj' : j < k + 1
  ·have hat := lets_at hj'
   rw [List.drop_eq_getElem_cons (by rw [lets_len]; exact hj'), List.findSome?_cons, hat] at hp
   have hcl : UInt8.ofNat (97 + j) ∈ lets (k + 1) := by rw [← hat]; exact List.getElem_mem _
   have hcn := let_nat (j := j) (by omega)
   obtain ⟨c, hc⟩ : ∃ c, UInt8.ofNat (97 + j) = c := ⟨_, rfl⟩
   rw [hc] at hp hcl hcn
   unfold f38_L1
   simp only [Option.bind_some]
   have e1 : IntKind.i64.wrap (97 + ((k + 1 : Nat) : Int)) = 97 + ((k + 1 : Nat) : Int) := wrap64 (by omega) (by omega)
   have e2 : IntKind.u8.wrap (97 + ((k + 1 : Nat) : Int)) = 97 + ((k + 1 : Nat) : Int) := wrap8 (by omega) (by omega)
   have e3 : IntKind.u8.wrap (97 + (j : Int) + 1) = 97 + ((j + 1 : Nat) : Int) := by rw [wrap8 (by omega) (by omega)]; omega
   rw [e1, e2, decide_eq_true (show 97 + (j : Int) < 97 + ((k + 1 : Nat) : Int) by omega)]
   simp only []
   rw [bytO_at (by omega)]
   simp only [Option.bind_some]
   rw [show (w.map fun b => (b.toNat : Int)) = ints w from rfl, ← hcn]
   obtain ⟨q1, q2⟩ := f68_law (w := w) (c := c) (F := F) (by omega) (by omega)
   have down : ∀ n, n + 1 ≤ L → ∃ w', bhd w c = some w' ∧ n ≤ arN (k + 1) [] w' := fun n hn => arN_down hcl (m := []) (by rw [hL]; exact hn) (by simp)
   have next : (match bhd w c with
     | none => some (c :: List.replicate L 97)
     | some w' => (fab (k + 1) L w').map (c :: ·)) = none → f38_L1 F ((k + 1 : Nat) : Int) (L : Int) K n (w, a, b, ints out, false, 97 + ((j + 1 : Nat) : Int)) = some (out ++ p, 0) := fun hn => by
    rw [hn] at hp
    exact f38_run hk hF hw hl ho hL hK n (j + 1) (by omega) (by omega) hp
   cases hb : bhd w c with
   | none =>
    rw [q1 hb]
    simp only [Option.bind_some]
    rw [show decide ((-1 : Int) < 0) = true from rfl]
    simp only []
    rw [ints_app rfl (by omega)]
    simp only [Option.bind_some, bytesN_ints]
    have hL0 : L = 0 := by
     rcases Nat.eq_zero_or_pos L with h0 | h0
     ·exact h0
     ·obtain ⟨w', h1, _⟩ := down 0 h0
      rw [hb] at h1; cases h1
    rw [hb, hL0] at hp
    simp only [List.replicate_zero, Option.some.injEq] at hp
    rw [← hp]
   | some w' =>
    obtain ⟨i, hi, rfl, hi2⟩ := q2 w' hb
    rw [hi2]
    simp only [Option.bind_some]
    rw [decide_eq_false (show ¬ (i : Int) < 0 by omega)]
    simp only []
    have hl' : ∀ x ∈ w.drop (i + 1), x ∈ lets (k + 1) := bhd_all hb hl
    have hw' : (w.drop (i + 1)).length ≤ 10 := by simp; omega
    rw [hb] at next
    simp only [] at next
    by_cases hL0 : 0 < L
    ·rw [decide_eq_true (show (0 : Int) < (L : Int) by omega)]
     simp only []
     rw [wrap_nat (by omega), subF_at (by omega)]
     simp only [Option.bind_some]
     rw [f65_law (by omega) hw' (fun x hx => by have := (lets_mem hk).1 (hl' x hx); omega)]
     simp only [Option.bind_some]
     rw [archI_len hk hl']
     have e5 : IntKind.i64.wrap ((L : Int) - 1) = ((L - 1 : Nat) : Int) := by
      have : L ≤ 10 := by
       have h8 := archI_len hk hl
       have h9 := archL_len (k := k + 1) (w := w) (m := []) (i := 0)
       unfold archI at h8
       rw [List.length_map] at h8
       omega
      rw [wrap64 (by omega) (by omega)]; omega
     rw [e5]
     obtain ⟨w', h1, h2⟩ := down (L - 1) (by omega)
     rw [hb] at h1
     cases h1
     by_cases hq : arN (k + 1) [] (w.drop (i + 1)) = L - 1
     ·rw [decide_eq_true (show ((arN (k + 1) [] (w.drop (i + 1)) : Nat) : Int) = ((L - 1 : Nat) : Int) by omega)]
      simp only []
      rw [ints_app rfl (by omega)]
      simp only [Option.bind_some]
      cases n with
      | zero => omega
      | succ n =>
       rw [f38_next]
       rw [hb] at hp
       simp only [] at hp
       cases hfb : fab (k + 1) L (w.drop (i + 1)) with
       | none =>
        have := (fab_none hl').1 hfb
        omega
       | some p' =>
        rw [hfb] at hp
        simp only [Option.map_some, Option.some.injEq] at hp
        refine hK (w.drop (i + 1)) c p' (by simp; omega) hl' ?_ hp.symm
        rw [hq, show L - 1 + 1 = L by omega]
        exact hfb
     ·rw [decide_eq_false (show ¬ ((arN (k + 1) [] (w.drop (i + 1)) : Nat) : Int) = ((L - 1 : Nat) : Int) by omega)]
      simp only []
      rw [hcn, e3]
      refine next ?_
      rw [(fab_none hl').2 (by omega)]
      rfl
    ·rw [decide_eq_false (show ¬ (0 : Int) < (L : Int) by omega)]
     simp only []
     rw [hcn, e3]
     refine next ?_
     obtain rfl : L = 0 := by omega
     rfl
  ·rw [List.drop_eq_nil_of_le (by rw [lets_len]; omega)] at hp
   cases hp
theorem fab_some {k : Nat} {w : List UInt8} (hl : ∀ x ∈ w, x ∈ lets (k + 1)) : ∃ p, fab (k + 1) (arN (k + 1) [] w + 1) w = some p := by
 cases h : fab (k + 1) (arN (k + 1) [] w + 1) w with
 | some p => exact ⟨p, rfl⟩
 | none => have := (fab_none hl).1 h; omega
theorem f38_all {F k : Nat} (hk : k + 1 ≤ 6) (hF : 12 ≤ F) {K : List UInt8 × Int → Option (List UInt8 × Int)} : ∀ (n : Nat) {w out : List UInt8} {a : List UInt8} {b : Int} {p : List UInt8}, w.length < n → w.length ≤ 10 → out.length + w.length ≤ 10 → (∀ x ∈ w, x ∈ lets (k + 1)) → fab (k + 1) (arN (k + 1) [] w + 1) w = some p →
  f38_L0 F ((k + 1 : Nat) : Int) K n (w, a, b, ints out) = some (out ++ p, 0)
 | 0, w, out, a, b, p, hn, _, _, _, _ => absurd hn (Nat.not_lt_zero _)
 | n + 1, w, out, a, b, p, hn, hw, ho, hl, hp => by
  unfold f38_L0
  rw [f65_law (by omega) hw (fun x hx => by have := (lets_mem hk).1 (hl x hx); omega)]
  simp only [Option.bind_some]
  rw [archI_len hk hl]
  have h0 : (97 : Int) = 97 + ((0 : Nat) : Int) := rfl
  rw [h0]
  refine f38_run hk hF hw hl (by omega) rfl (fun w' c p' h1 h2 h3 h4 => ?_) F 0 (by omega) (by omega) ?_
  ·have := f38_all hk hF (K := K) n (w := w') (out := out ++ [c]) (a := a) (b := b) (p := p') (by omega) (by omega) (by simp; omega) h2 h3
   simp only []
   rw [this, h4]
   simp
  ·rw [List.drop_zero]
   unfold fab at hp
   exact hp
theorem f38_law {w : List UInt8} {k : Int} {F : Nat} (hF : 13 ≤ F) : (lettW w k ≠ 0 → f38S F w k = some ([], lettW w k)) ∧ ∀ n p, lettW w k = 0 → k = ((n + 1 : Nat) : Int) → fab (n + 1) (arN (n + 1) [] w + 1) w = some p → f38S F w k = some (p, 0) := by
 unfold f38S
 rw [f64_law (by omega)]
 simp only [Option.bind_some]
 refine ⟨fun h => by rw [decide_eq_false h], fun n p h hk hp => ?_⟩
 rw [decide_eq_true h]
 obtain ⟨m, hm, h1, h6, hw, hl⟩ := lettW_ok h
 obtain rfl : m = n + 1 := by omega
 subst hk
 have := f38_all (F := F) h6 (by omega) (K := fun (v44, v45) => some (v44, v45)) F (w := w) (out := []) (a := []) (b := 0) (by omega) hw (by simp; omega) hl hp
 exact this
theorem wrds_len {k : Nat} : ∀ n, (wrds k n).length = k ^ n
 | 0 => rfl
 | n + 1 => by
  rw [wrds, List.length_flatMap]
  simp only [List.length_map, wrds_len n]
  rw [List.map_const', List.sum_replicate_nat, lets_len, Nat.pow_succ, Nat.mul_comm]
theorem wrds_each {k n : Nat} : ∀ p ∈ wrds k n, p.length = n := by
 induction n with
 | zero => intro p hp; simp [wrds] at hp; rw [hp]; rfl
 | succ n ih =>
  intro p hp
  rw [wrds, List.mem_flatMap] at hp
  obtain ⟨c, _, hp⟩ := hp
  obtain ⟨q, hq, rfl⟩ := List.mem_map.1 hp
  simp [ih q hq]
theorem pow_le {k U : Nat} (hk : k + 1 ≤ 6) (hU : U * (k + 1) ≤ 10) : ∀ t, t ≤ U + 1 → (k + 1) ^ t ≤ 900 := by
 intro t ht
 have hb : (k = 0) ∨ (k = 1 ∧ t ≤ 6) ∨ (k = 2 ∧ t ≤ 4) ∨ (k = 3 ∧ t ≤ 3) ∨ (k = 4 ∧ t ≤ 3) ∨ (k = 5 ∧ t ≤ 2) := by
  rcases (by omega : k = 0 ∨ k = 1 ∨ k = 2 ∨ k = 3 ∨ k = 4 ∨ k = 5) with h | h | h | h | h | h <;> subst h <;> omega
 rcases hb with rfl | ⟨rfl, h⟩ | ⟨rfl, h⟩ | ⟨rfl, h⟩ | ⟨rfl, h⟩ | ⟨rfl, h⟩
 ·simp
 ·exact Nat.le_trans (Nat.pow_le_pow_right (by omega) h) (by decide)
 ·exact Nat.le_trans (Nat.pow_le_pow_right (by omega) h) (by decide)
 ·exact Nat.le_trans (Nat.pow_le_pow_right (by omega) h) (by decide)
 ·exact Nat.le_trans (Nat.pow_le_pow_right (by omega) h) (by decide)
 ·exact Nat.le_trans (Nat.pow_le_pow_right (by omega) h) (by decide)
end Go.Proofs.Ytmnmfmghmenkkaa
